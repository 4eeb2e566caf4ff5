/- Machines and configurations: plain words; the program's tests (printed by gen_mr1.py). -/
import Derived.Test.YtkiamhpapkgboaaDoorKQ
import Derived.Maps.OwnSet
import Derived.DeepKeys4
namespace Go.Proofs.YtkiamhpapkgboaaDoor
open Go.RowKit Go.Shelf
set_option linter.unusedSimpArgs false
set_option linter.unusedVariables false
attribute [local go_sem] BelowBy.cell BelowBy.cell_drew stillUpon givesUpon
open Go.Maps (Keyed)

theorem wrapN {n : Int} (h1 : -9000000000000000000 ≤ n) (h2 : n ≤ 9000000000000000000) : IntKind.i64.wrap n = n := by
  simp [IntKind.wrap, IntKind.bits, IntKind.signed]; omega
/-- a number of 64 bits -/
def I64 (x : Int) : Prop := (Lit.int .i64 x).wf = true
theorem I64.of {x : Int} (h : -1000000 ≤ x ∧ x ≤ 1000000) : I64 x := by
  unfold I64; simp [Lit.wf, IntKind.min, IntKind.max, IntKind.bits, IntKind.signed]; omega
section
set_option maxRecDepth 100000
theorem sn_laid : laidOutB Tryd.prog = true := by kernel_rfl
theorem sn_row : (133 : TypeId) < Tryd.prog.types.size := of_decide_eq_true (by kernel_rfl)
theorem sn_wide : (match Tryd.prog.underlying 133 with | some (.array _ _) | some (.struct _) => true | _ => false) = true := by rw [Tryd.underlying133]
theorem sn_keyed : Keyed Tryd.prog 133 := Maps.Keyed.of_law (deep_law_laid sn_laid (m := 2) (by omega) sn_row (by kernel_rfl) sn_wide)
theorem sn_type : Tryd.prog.keyType 133 = true := by kernel_rfl
theorem sn_cells : Tryd.prog.cellsOf 133 = 2 := by kernel_rfl
theorem sn_i64 : Tryd.prog.cellsOf 2 = 1 := by kernel_rfl
theorem sn_size : ∃ m, Tryd.prog.types.size = m + 1 := ⟨_, (Nat.succ_pred_eq_of_pos (Nat.lt_of_le_of_lt (Nat.zero_le _) sn_row)).symm⟩
theorem keyOf_sn_some {x y : Int} (hx : I64 x) (hy : I64 y) : ∃ l, keyOf Tryd.prog 133 (.agg #[.int .i64 x, .int .i64 y]) = some l := by
  unfold keyOf
  obtain ⟨m, hm⟩ := sn_size
  unfold I64 at hx hy
  rw [Tryd.underlying133]
  simp only []
  rw [if_pos (by rw [sn_type]; simp [Value.formed, Tryd.underlying133, sn_cells])]
  simp only [Option.map_eq_some_iff]
  refine ⟨_, [.int .i64 x, .int .i64 y], ?_, rfl⟩
  rw [hm]
  simp [Program.keyLits, Tryd.underlying133, Tryd.underlying2, sn_cells, sn_i64, Value.cells, hx, hy]
noncomputable def skey (x y : Int) : Lit := (keyOf Tryd.prog 133 (.agg #[.int .i64 x, .int .i64 y])).getD (.bool false)
theorem keyOf_sn {x y : Int} (hx : I64 x) (hy : I64 y) : keyOf Tryd.prog 133 (.agg #[.int .i64 x, .int .i64 y]) = some (skey x y) := by
  obtain ⟨l, hl⟩ := keyOf_sn_some hx hy
  unfold skey
  rw [hl]; rfl
theorem skey_inj {x y x' y' : Int} (hx : I64 x) (hy : I64 y) (hx' : I64 x') (hy' : I64 y') (h : skey x y = skey x' y') : x = x' ∧ y = y' := by
  have h1 := keyOf_sn hx hy
  have h2 := keyOf_sn hx' hy'
  rw [← h] at h2
  have := sn_keyed.inj h1 h2
  simp at this
  exact this
theorem skey_is {x y : Int} (hx : I64 x) (hy : I64 y) : WideAt.IsKeyLit (skey x y) := sn_keyed.key (keyOf_sn hx hy)
end
/-- the numbers of a move are small -/
def MvI (v : Mvm) : Prop := I64 v.s ∧ I64 v.r
noncomputable def keysM (ms : List Mvm) : List Lit := ms.map fun v => skey v.s v.r
def anyE : Value → Option (DataW Unit × List MemPlace) := fun _ => some (.lit (.bool true), [])
noncomputable def setM (ms : List Mvm) : DataW Unit := Maps.setOf (.lit (.bool true)) (keysM ms)
/-- block b is a map with the keys of some moves -/
def KMap (w : World) (b : Nat) (ms : List Mvm) : Prop := w.ownsMap Tryd.prog 133 anyE b ms.length (setM ms)
theorem setM_snoc (ms : List Mvm) (v : Mvm) : setM (ms ++ [v]) = (setM ms).put (skey v.s v.r) (.lit (.bool true)) := by
  unfold setM keysM
  rw [List.map_append, List.map_cons, List.map_nil, Maps.setOf_snoc]
theorem KMap.below {w w' : World} {b : Nat} {ms : List Mvm} (h : KMap w b ms) (hb : Below w.heap.size w w') : KMap w' b ms := by
  have hl := World.ownsMap.lt h
  obtain ⟨es, clock, hh, r⟩ := h
  exact ⟨es, clock, (hb.block b hl).trans hh, r⟩
/-- the place of the first move for a state and a symbol -/
def findM (ms : List Mvm) (s r : Int) : Option Nat := ms.findIdx? fun v => v.s == s && v.r == r
def findI (ms : List Mvm) (s r : Int) : Int := match findM ms s r with
  | some k => (k : Int)
  | none => -1
/-- move j is the first one for its state and symbol -/
def newM (ms : List Mvm) (j : Nat) : Bool := match ms[j]? with
  | some v => decide (findI ms v.s v.r = (j : Int))
  | none => true
def okMvB (Q S : Int) (v : Mvm) : Bool := inB v.s 0 (Q - 1) && (inB v.n 0 (Q - 1) && (inB v.r 0 (S - 1) && (inB v.w 0 (S - 1) && (v.d == 1 || v.d == 3))))
def okM (Q S : Int) (ms : List Mvm) (j : Nat) : Bool := match ms[j]? with
  | some v => okMvB Q S v
  | none => true
def mcB (Q S : Int) (ms : List Mvm) : Bool := inB Q 1 5 && (inB S 1 4 && (decide (ms.length ≤ 20) && (allB ms.length (okM Q S ms) && allB ms.length (newM ms))))
def symB (S : Int) (l : List Int) (j : Nat) : Bool := match l[j]? with
  | some a => inB a 0 (S - 1)
  | none => true
def cfB (Q S : Int) (l : List Int) (h s : Int) : Bool := inB (l.length : Int) 1 12 && (allB l.length (symB S l) && (inB h 0 ((l.length : Int) - 1) && inB s 0 (Q - 1)))
theorem okM_eq {Q S : Int} {ms : List Mvm} {j : Nat} {v : Mvm} (h : ms[j]? = some v) : okM Q S ms j = okMvB Q S v := by unfold okM; rw [h]
theorem newM_eq {ms : List Mvm} {j : Nat} {v : Mvm} (h : ms[j]? = some v) : newM ms j = decide (findI ms v.s v.r = (j : Int)) := by unfold newM; rw [h]
theorem symB_eq {S : Int} {l : List Int} {j : Nat} {v : Int} (h : l[j]? = some v) : symB S l j = inB v 0 (S - 1) := by unfold symB; rw [h]
theorem allB_all {n : Nat} {p : Nat → Bool} (h : allB n p = true) (k : Nat) (hk : k < n) : p k = true := by
  unfold allB at h
  exact List.all_eq_true.1 h k (List.mem_range.2 hk)
/-- the number of different keys -/
theorem add_le : ∀ (l acc : List Lit), (l.foldl Maps.addKey acc).length ≤ acc.length + l.length
  | [], acc => by simp
  | x :: r, acc => by
    rw [List.foldl_cons]
    have ih := add_le r (Maps.addKey acc x)
    have : (Maps.addKey acc x).length ≤ acc.length + 1 := by unfold Maps.addKey; split <;> simp
    simp only [List.length_cons]; omega
theorem add_eq : ∀ (l acc : List Lit), (∀ x ∈ l, WideAt.IsKeyLit x) → ((l.foldl Maps.addKey acc).length = acc.length + l.length ↔ ((∀ x ∈ l, x ∉ acc) ∧ l.Nodup))
  | [], acc, _ => by simp
  | x :: r, acc, hk => by
    rw [List.foldl_cons]
    have ih := add_eq r (Maps.addKey acc x) (fun y hy => hk y (List.mem_cons_of_mem _ hy))
    by_cases hx : x ∈ acc
    · have ha : Maps.addKey acc x = acc := by
        have h9 : (acc.any fun y => y.sameKey x) = true := List.any_eq_true.2 ⟨x, hx, WideAt.sameKey_self (hk x (List.mem_cons_self ..))⟩
        unfold Maps.addKey
        rw [if_pos h9]
      rw [ha]
      have := add_le r acc
      constructor
      · intro h; simp only [List.length_cons] at h; omega
      · rintro ⟨h, _⟩; exact absurd hx (h x (List.mem_cons_self ..))
    · have ha : Maps.addKey acc x = acc ++ [x] := by
        have h9 : ¬ (acc.any fun y => y.sameKey x) = true := fun h => by
          obtain ⟨y, hy, hs⟩ := List.any_eq_true.1 h
          exact hx (WideAt.sameKey_eq hs ▸ hy)
        unfold Maps.addKey
        rw [if_neg h9]
      rw [ha] at ih ⊢
      rw [show acc.length + (x :: r).length = (acc ++ [x]).length + r.length by simp; omega, ih, List.nodup_cons]
      constructor
      · rintro ⟨h1, h2⟩
        refine ⟨fun y hy => ?_, fun hxr => h1 x hxr (by simp), h2⟩
        rcases List.mem_cons.1 hy with rfl | hy
        · exact hx
        · exact fun ha => h1 y hy (by simp [ha])
      · rintro ⟨h1, h2, h3⟩
        refine ⟨fun y hy hya => ?_, h3⟩
        rcases List.mem_append.1 hya with hya | hya
        · exact h1 y (List.mem_cons_of_mem _ hy) hya
        · simp at hya; subst hya; exact h2 hy
theorem findM_at {ms : List Mvm} {j : Nat} {v : Mvm} (h : ms[j]? = some v) : ∃ k, findM ms v.s v.r = some k ∧ k ≤ j ∧ ∃ e, ms[k]? = some e ∧ e.s = v.s ∧ e.r = v.r ∧ ∀ i e', i < k → ms[i]? = some e' → ¬ (e'.s = v.s ∧ e'.r = v.r) := by
  unfold findM
  obtain ⟨hj, hv⟩ := List.getElem?_eq_some_iff.1 h
  cases hf : ms.findIdx? (fun e => e.s == v.s && e.r == v.r) with
  | none =>
    rw [List.findIdx?_eq_none_iff] at hf
    have := hf v (List.mem_of_getElem? h)
    simp at this
  | some k =>
    rw [List.findIdx?_eq_some_iff_getElem] at hf
    obtain ⟨hk, hp, hn⟩ := hf
    simp only [Bool.and_eq_true, beq_iff_eq] at hp
    refine ⟨k, rfl, ?_, ms[k], List.getElem?_eq_getElem hk, hp.1, hp.2, fun i e' hi he' hh => ?_⟩
    · rcases Nat.lt_or_ge j k with hlt | hge
      · have := hn j hlt
        rw [hv] at this
        simp at this
      · exact hge
    · have := hn i hi
      obtain ⟨hi', he⟩ := List.getElem?_eq_some_iff.1 he'
      rw [he] at this
      simp [hh.1, hh.2] at this
theorem keys_nodup {ms : List Mvm} (hI : ∀ v ∈ ms, MvI v) : (keysM ms).Nodup ↔ allB ms.length (newM ms) = true := by
  constructor
  · intro h
    refine allB_true fun j hj => ?_
    obtain ⟨v, hv⟩ : ∃ v, ms[j]? = some v := ⟨_, List.getElem?_eq_getElem hj⟩
    rw [newM_eq hv]
    obtain ⟨k, hk, hkj, e, he, h1, h2, _⟩ := findM_at hv
    rcases Nat.lt_or_ge k j with hlt | hge
    · exfalso
      have hkl : k < (keysM ms).length := by unfold keysM; rw [List.length_map]; omega
      have hjl : j < (keysM ms).length := by unfold keysM; rw [List.length_map]; exact hj
      have := (List.pairwise_iff_getElem.1 h) k j hkl hjl hlt
      obtain ⟨_, e1⟩ := List.getElem?_eq_some_iff.1 he
      obtain ⟨_, e2⟩ := List.getElem?_eq_some_iff.1 hv
      apply this
      simp only [keysM, List.getElem_map, e1, e2, h1, h2]
    · have : k = j := by omega
      subst this
      unfold findI
      rw [hk]; simp
  · intro h
    refine List.pairwise_iff_getElem.2 fun i j hi hj hij he => ?_
    unfold keysM at hi hj
    rw [List.length_map] at hi hj
    obtain ⟨v, hv⟩ : ∃ v, ms[j]? = some v := ⟨_, List.getElem?_eq_getElem hj⟩
    obtain ⟨u, hu⟩ : ∃ u, ms[i]? = some u := ⟨_, List.getElem?_eq_getElem hi⟩
    obtain ⟨_, e1⟩ := List.getElem?_eq_some_iff.1 hu
    obtain ⟨_, e2⟩ := List.getElem?_eq_some_iff.1 hv
    simp only [keysM, List.getElem_map, e1, e2] at he
    have hu' := hI u (List.mem_of_getElem? hu)
    have hv' := hI v (List.mem_of_getElem? hv)
    obtain ⟨h1, h2⟩ := skey_inj hu'.1 hu'.2 hv'.1 hv'.2 he
    have hn := allB_all h j hj
    rw [newM_eq hv] at hn
    simp only [decide_eq_true_eq] at hn
    obtain ⟨k, hk, _, e, he, _, _, hmin⟩ := findM_at hv
    unfold findI at hn
    rw [hk] at hn
    simp only at hn
    have hkj : k = j := by omega
    subst hkj
    exact hmin i u hij hu ⟨h1, h2⟩
set_option maxRecDepth 100000 in
theorem size_new {ms : List Mvm} (hI : ∀ v ∈ ms, MvI v) : (((Maps.size (setM ms) : Nat) : Int) == ((ms.length : Nat) : Int)) = allB ms.length (newM ms) := by
  have hk : ∀ x ∈ keysM ms, WideAt.IsKeyLit x := by
    intro x hx
    obtain ⟨v, hv, rfl⟩ := List.mem_map.1 hx
    exact skey_is (hI v hv).1 (hI v hv).2
  have hs : Maps.size (setM ms) = ((keysM ms).foldl Maps.addKey []).length := Maps.size_setOf _ _ hk
  have h2 := add_eq (keysM ms) [] hk
  have hl : (keysM ms).length = ms.length := by unfold keysM; rw [List.length_map]
  rw [hl] at h2
  simp only [List.length_nil, Nat.zero_add, List.not_mem_nil, not_false_eq_true, implies_true, true_and] at h2
  rw [keys_nodup hI] at h2
  rw [hs]
  cases hb : allB ms.length (newM ms)
  · rw [hb] at h2
    simp only [Bool.false_eq_true, iff_false] at h2
    simp; omega
  · rw [hb] at h2
    simp only [iff_true] at h2
    simp; omega
section
variable {ops : Array Oper} {rest : List (Oper × Tag)} {o : Oper} {a : Act} {Q : Act → World → Prop} {w : World}
set_option maxRecDepth 100000 in
/-- the length of a map in a region that draws its order -/
theorem wpD_lenK (hw : Region.wanted o (yielded ops a.tmps) = true) (m : Operand) (hop : o.op = Op.call { callee := Callee.builtin Builtin.len, args := #[m], argTypes := #[118] }) (b : Nat) (ms : List Mvm) (hm : a.eval m = .map (some b)) (h : KMap w b ms)
    (hK : wpD Tryd.prog ops Q rest (a.put o.dst (.int .i64 (Maps.size (setM ms)))) w) : wpD Tryd.prog ops Q ((o, .q) :: rest) a w := by
  simp only [wpD, hw, if_true]
  refine ⟨.int .i64 (Maps.size (setM ms)), fun p => ?_, hK⟩
  have hrun := World.ownsMap.len (h.below p.h) Tryd.underlying118 o.type
  unfold stillUpon
  simp only [execOp, hop, resolve, invoke, builtin, List.map_toArray, List.map_cons, List.map_nil, hm, Sem.run_bind, Sem.run_pure, hrun, Result.andThen_ok]
  first | trivial | exact ⟨trivial, trivial⟩ | exact ⟨trivial, rfl⟩ | exact ⟨rfl, trivial⟩ | exact ⟨rfl, rfl⟩
end
set_option maxRecDepth 100000 in
set_option maxHeartbeats 4000000 in
theorem moveOk_any (Q S s r wr d n : Int) (MA : Option Addr) (mn mc : Nat) (w : World) (hQ : 1 ≤ Q ∧ Q ≤ 5) (hS : 1 ≤ S ∧ S ≤ 4) (b : Bool) (hb : okMvB Q S ⟨s, r, wr, d, n⟩ = b) :
    Calls Tryd.prog 67 #[.agg #[.int .i64 Q, .int .i64 S, .slice MA mn mc], .agg #[.int .i64 s, .int .i64 r, .int .i64 wr, .int .i64 d, .int .i64 n]] w fun e w' => e = .returned (.bool b) ∧ Below w.heap.size w w' := by
  have hB := Lib.hid (show b = (inB s 0 (Q - 1) && (inB n 0 (Q - 1) && (inB r 0 (S - 1) && (inB wr 0 (S - 1) && (d == 1 || d == 3))))) from hb.symm)
  have wq : IntKind.i64.wrap (Q - 1) = Q - 1 := wrapN (by omega) (by omega)
  have ws : IntKind.i64.wrap (S - 1) = S - 1 := wrapN (by omega) (by omega)
  clear hb hQ hS
  cases h1 : inB s 0 (Q - 1)
  · have hr := Lib.hid (show false = b by rw [hB.out, h1]; simp)
    go_enter Tryd.func67, Tryd.ntmps67
    go_wp2_with (go_at_call 48; refine (within_any _ _ _ _).mono ?_; rintro e _ ⟨rfl, rfl⟩)
    go_ret
    exact ⟨ret_bool hr.out, by exact bel_⟩
  cases h2 : inB n 0 (Q - 1)
  · have hr := Lib.hid (show false = b by rw [hB.out, h1, h2]; simp)
    go_enter Tryd.func67, Tryd.ntmps67
    go_wp2_with (go_at_call 48; refine (within_any _ _ _ _).mono ?_; rintro e _ ⟨rfl, rfl⟩)
    go_ret
    exact ⟨ret_bool hr.out, by exact bel_⟩
  cases h3 : inB r 0 (S - 1)
  · have hr := Lib.hid (show false = b by rw [hB.out, h1, h2, h3]; simp)
    go_enter Tryd.func67, Tryd.ntmps67
    go_wp2_with (go_at_call 48; refine (within_any _ _ _ _).mono ?_; rintro e _ ⟨rfl, rfl⟩)
    go_ret
    exact ⟨ret_bool hr.out, by exact bel_⟩
  cases h4 : inB wr 0 (S - 1)
  · have hr := Lib.hid (show false = b by rw [hB.out, h1, h2, h3, h4]; simp)
    go_enter Tryd.func67, Tryd.ntmps67
    go_wp2_with (go_at_call 48; refine (within_any _ _ _ _).mono ?_; rintro e _ ⟨rfl, rfl⟩)
    go_ret
    exact ⟨ret_bool hr.out, by exact bel_⟩
  by_cases hd1 : d = 1
  · subst hd1
    have hr := Lib.hid (show true = b by rw [hB.out, h1, h2, h3, h4]; rfl)
    go_enter Tryd.func67, Tryd.ntmps67
    go_wp2_with (go_at_call 48; refine (within_any _ _ _ _).mono ?_; rintro e _ ⟨rfl, rfl⟩)
    go_ret
    exact ⟨ret_bool hr.out, by exact bel_⟩
  have hd1b : (d == 1) = false := by simpa using hd1
  by_cases hd3 : d = 3
  · subst hd3
    have hr := Lib.hid (show true = b by rw [hB.out, h1, h2, h3, h4]; rfl)
    go_enter Tryd.func67, Tryd.ntmps67
    go_wp2_with (go_at_call 48; refine (within_any _ _ _ _).mono ?_; rintro e _ ⟨rfl, rfl⟩)
    go_ret
    exact ⟨ret_bool hr.out, by exact bel_⟩
  have hd3b : (d == 3) = false := by simpa using hd3
  have hr := Lib.hid (show false = b by rw [hB.out, h1, h2, h3, h4, hd1b, hd3b]; rfl)
  go_enter Tryd.func67, Tryd.ntmps67
  go_wp2_with (go_at_call 48; refine (within_any _ _ _ _).mono ?_; rintro e _ ⟨rfl, rfl⟩)
  go_ret
  exact ⟨ret_bool hr.out, by exact bel_⟩
set_option maxRecDepth 100000 in
set_option maxHeartbeats 4000000 in
theorem vm1_any (p : Nat) (Q S s r wr d n : Int) (MA : Option Addr) (mn mc : Nat) (w : World) (hp : p < w.heap.size) (c0 : w.cell? ⟨p, 0, none⟩ = some (.int .i64 Q)) (c1 : w.cell? ⟨p, 1, none⟩ = some (.int .i64 S)) (c2 : w.cell? ⟨p, 2, none⟩ = some (.slice MA mn mc)) (hQ : 1 ≤ Q ∧ Q ≤ 5) (hS : 1 ≤ S ∧ S ≤ 4) (b : Bool) (hb : okMvB Q S ⟨s, r, wr, d, n⟩ = b) :
    Calls Tryd.prog 66 #[.agg #[.int .i64 s, .int .i64 r, .int .i64 wr, .int .i64 d, .int .i64 n], .pointer (some ⟨p, 0, none⟩)] w fun e w' => e = .returned (.bool (!b)) ∧ Below w.heap.size w w' := by
  have hbH := Lib.hid hb
  clear hb
  go_enter Tryd.func66, Tryd.ntmps66
  go_wp2_with (go_at_call 67; refine (moveOk_any Q S s r wr d n MA mn mc _ hQ hS b hbH.out).mono ?_; rintro e w1 ⟨rfl, hb1⟩)
  go_ret
  exact ⟨rfl, (bl_al (bl_refl _) _).trans (hb1.mono (by simp))⟩
def FirstM (w : World) (n : Nat) (ok : Nat → Bool) (e : Ending) (w' : World) : Prop := ∃ r : Int, e = .returned (.int .i64 r) ∧ decide (0 ≤ r) = (!allB n ok) ∧ Below w.heap.size w w'
set_option maxRecDepth 100000 in
set_option maxHeartbeats 4000000 in
theorem IndexFuncM_any (p : Nat) (Q S : Int) (MA B : Option Addr) (mn mc n d : Nat) (ms : List Mvm) (w : World) (lp : p < w.heap.size) (c0 : w.cell? ⟨p, 0, none⟩ = some (.int .i64 Q)) (c1 : w.cell? ⟨p, 1, none⟩ = some (.int .i64 S)) (c2 : w.cell? ⟨p, 2, none⟩ = some (.slice MA mn mc)) (hQ : 1 ≤ Q ∧ Q ≤ 5) (hS : 1 ≤ S ∧ S ≤ 4) (hx : RdSl 5 RMv w B n ms) (hn : n ≤ 9223372036854775807) :
    Calls Tryd.prog 80 #[.slice B n d, .func (.func 66) #[] #[.pointer (some ⟨p, 0, none⟩)]] w (FirstM w n (okM Q S ms)) := by
  have hxH := Lib.hid hx
  clear hx
  go_enter Tryd.func80, Tryd.ntmps80
  go_wp2
  go_loopg [8] n (fun r x wr => ∃ k : Nat, k + r = n ∧ x = .int .i64 k ∧ (∀ j, j < k → okM Q S ms j = true) ∧ Below w.heap.size w wr)
  case atStart => exact ⟨0, by omega, rfl, fun j hj => by omega, Below.refl _ _⟩
  case round =>
    obtain ⟨k, hk, rfl, hok, hbw⟩ := hrel
    have hok := Lib.hid hok
    have hx1 := hxH.out.below RMv.stable hbw
    have d0 := (hbw.cell (p := ⟨p, 0, none⟩) lp).trans c0
    have d1 := (hbw.cell (p := ⟨p, 1, none⟩) lp).trans c1
    have d2 := (hbw.cell (p := ⟨p, 2, none⟩) lp).trans c2
    have lp1 : p < wr.heap.size := Nat.lt_of_lt_of_le lp hbw.size
    by_cases hkn : k < n
    · obtain ⟨b, o, rfl, hb, hc⟩ := hx1.ptr (by omega)
      obtain ⟨v, hv⟩ := hx1.get hkn
      obtain ⟨e0, e1, e2, e3, e4⟩ := hc k v hv
      obtain ⟨ok, hokv⟩ : ∃ ok, okMvB Q S v = ok := ⟨_, rfl⟩
      have HS := Lib.hid (show okM Q S ms k = ok by rw [okM_eq hv, hokv])
      obtain ⟨vs, vr, vw, vd, vn⟩ := v
      simp only at e0 e1 e2 e3 e4
      have hokvH := Lib.hid hokv
      clear hc hv hx1 hokv
      cases ok
      · go_wp2_with (go_at_call 66; refine (vm1_any p Q S vs vr vw vd vn MA mn mc _ lp1 d0 d1 d2 hQ hS false hokvH.out).mono ?_; rintro e w1 ⟨rfl, hb1⟩)
        go_ret
        exact ⟨_, rfl, by rw [allB_false hkn (by rw [HS.out])]; simp, bl_tr hbw hb1⟩
      · go_wp2_with (go_at_call 66; refine (vm1_any p Q S vs vr vw vd vn MA mn mc _ lp1 d0 d1 d2 hQ hS true hokvH.out).mono ?_; rintro e w1 ⟨rfl, hb1⟩)
        go_roundg (n - (k + 1))
        case measure => omega
        case rel => exact ⟨k + 1, by omega, by go_num, fun j hj => (by rcases Nat.lt_succ_iff_lt_or_eq.1 hj with hj | rfl; exact hok.out j hj; rw [HS.out]), bl_tr hbw hb1⟩
    · obtain rfl : k = n := by omega
      go_wp2
      go_ret
      exact ⟨_, rfl, by rw [allB_true hok.out]; simp, hbw⟩
theorem ContainsFuncM_any (p : Nat) (Q S : Int) (MA B : Option Addr) (mn mc n d : Nat) (ms : List Mvm) (w : World) (lp : p < w.heap.size) (c0 : w.cell? ⟨p, 0, none⟩ = some (.int .i64 Q)) (c1 : w.cell? ⟨p, 1, none⟩ = some (.int .i64 S)) (c2 : w.cell? ⟨p, 2, none⟩ = some (.slice MA mn mc)) (hQ : 1 ≤ Q ∧ Q ≤ 5) (hS : 1 ≤ S ∧ S ≤ 4) (hx : RdSl 5 RMv w B n ms) (hn : n ≤ 9223372036854775807) (u : Bool) (hu : (!allB n (okM Q S ms)) = u) :
    Calls Tryd.prog 65 #[.slice B n d, .func (.func 66) #[] #[.pointer (some ⟨p, 0, none⟩)]] w fun e w' => e = .returned (.bool u) ∧ Below w.heap.size w w' := by
  rw [← hu]
  clear hu
  go_enter Tryd.func65, Tryd.ntmps65
  go_wp2_with (go_at_call 80; refine (IndexFuncM_any p Q S MA B mn mc n d ms _ lp c0 c1 c2 hQ hS hx hn).mono ?_; rintro e w1 ⟨r, rfl, hr, hb1⟩)
  go_ret
  exact ⟨rfl, hb1⟩
set_option maxRecDepth 100000 in
set_option maxHeartbeats 4000000 in
theorem table_any (Q S : Int) (MA : Option Addr) (n mc : Nat) (ms : List Mvm) (w : World) (hx : RdSl 5 RMv w MA n ms) (hI : ∀ v ∈ ms, MvI v) (hn : n ≤ 1000) :
    Calls Tryd.prog 68 #[.agg #[.int .i64 Q, .int .i64 S, .slice MA n mc]] w fun e w' => ∃ b, e = .returned (.map (some b)) ∧ KMap w' b ms ∧ Below w.heap.size w w' := by
  have hmm := @run_makeMap Tryd.prog
  have hl := Lib.hid hx.len
  have hxH := Lib.hid hx
  have hIH := Lib.hid hI
  clear hx hI
  go_enter Tryd.func68, Tryd.ntmps68
  go_wp2
  go_loopg [10] n (fun g i wr => ∃ k : Nat, k + g = n ∧ i = .int .i64 (k : Int) ∧ Hid (KMap wr (w.heap.size + 1) (ms.take k)) ∧ Hid (Below w.heap.size w wr))
  case atStart => exact ⟨0, by omega, rfl, Lib.hid (show World.ownsMap _ _ _ _ _ _ _ from by have := World.ownsMap_made (H := Unit) (w.alloc (Obj.cells #[.int .i64 Q, .int .i64 S, .slice MA n mc] 43)) Tryd.prog 133 anyE; simpa [setM, keysM, Maps.setOf] using this), Lib.hid (bl_al (bl_al (bl_refl _) _) _)⟩
  case round =>
    obtain ⟨k, hk, rfl, hM, hbw⟩ := hrel
    have hsz := hbw.out.size
    by_cases hkn : k < n
    · have hx1 := hxH.out.below RMv.stable hbw.out
      obtain ⟨b, o, rfl, hb, hc⟩ := hx1.ptr (by omega)
      obtain ⟨v, hv⟩ := hx1.get hkn
      obtain ⟨e0, e1, e2, e3, e4⟩ := hc k v hv
      have hvI := hIH.out v (List.mem_of_getElem? hv)
      have htk := Lib.hid (show ms.take (k + 1) = ms.take k ++ [v] by rw [List.take_add_one, hv]; rfl)
      obtain ⟨vs, vr, vw, vd, vn⟩ := v
      simp only at e0 e1 e2 e3 e4
      have hkey := keyOf_sn hvI.1 hvI.2
      simp only at hkey
      have hlt := Lib.hid (show (ms.take k).length = k by rw [List.length_take, hl.out]; omega)
      clear hc hv hx1 hvI
      go_wp2_with (at_mapUpdate; refine wpList_mapUpdate_own _ rfl _ _ _ 118 rfl 133 82 sn_keyed Tryd.underlying118 anyE (w.heap.size + 1) (ms.take k).length _ rfl (hM.out.below (bl_al (bl_refl wr) _)) (by rw [hlt.out]; unfold maxLen; omega) _ _ _ rfl rfl hkey (.lit (.bool true)) [] rfl ?_; intro w1 hown1 hgrow1; have hM1 := Lib.hid hown1; have hb1 := Lib.hid ((hbw.out.trans ((bl_al (bl_refl wr) _).mono hsz)).grown hgrow1 (by simp; omega) (fun g e => by injection e with e; omega)); clear hown1 hgrow1)
      go_roundg (n - (k + 1))
      case measure => omega
      case rel => exact ⟨k + 1, by omega, by go_num, Lib.hid (by rw [htk.out]; unfold KMap; rw [setM_snoc, List.length_append]; exact hM1.out), hb1⟩
    · obtain rfl : k = n := by omega
      have hM1 := hM.out
      rw [List.take_of_length_le (by rw [hl.out]; exact Nat.le_refl _)] at hM1
      have hM1H := Lib.hid hM1
      clear hM1
      go_wp2
      go_ret
      exact ⟨_, rfl, hM1H.out, hbw.out⟩
theorem mcB_moves {Q S : Int} {ms : List Mvm} (hQ : inB Q 1 5 = true) (hS : inB S 1 4 = true) (h : allB ms.length (okM Q S ms) = true) : ∀ v ∈ ms, MvI v := by
  intro v hv
  obtain ⟨j, hj, rfl⟩ := List.mem_iff_getElem.1 hv
  have := allB_all h j hj
  rw [okM_eq (List.getElem?_eq_getElem hj)] at this
  unfold okMvB at this
  simp only [Bool.and_eq_true, inB_true] at this hQ hS
  exact ⟨I64.of (by omega), I64.of (by omega)⟩
set_option maxRecDepth 100000 in
set_option maxHeartbeats 4000000 in
theorem ValidMachine_any (Q S : Int) (MA : Option Addr) (n mc : Nat) (ms : List Mvm) (w : World) (hx : RdSl 5 RMv w MA n ms) (hn : n ≤ 1073741824) (b : Bool) (hb : mcB Q S ms = b) :
    Calls Tryd.prog 47 #[.agg #[.int .i64 Q, .int .i64 S, .slice MA n mc]] w fun e w' => e = .returned (.bool b) ∧ Below w.heap.size w w' := by
  have hl := hx.len
  have hB := Lib.hid (show b = (inB Q 1 5 && (inB S 1 4 && (decide (n ≤ 20) && (allB n (okM Q S ms) && allB n (newM ms))))) by rw [← hb, ← hl]; rfl)
  have hlH := Lib.hid hl
  have hxH := Lib.hid hx
  clear hb hx hl
  
  cases h1 : inB Q 1 5
  · have hr := Lib.hid (show false = b by rw [hB.out, h1]; rfl)
    go_enter Tryd.func47, Tryd.ntmps47
    go_wp2_with (go_at_call 48; refine (within_any _ _ _ _).mono ?_; rintro e _ ⟨rfl, rfl⟩)
    go_ret
    exact ⟨ret_bool hr.out, by exact bel_⟩
  cases h2 : inB S 1 4
  · have hr := Lib.hid (show false = b by rw [hB.out, h1, h2]; rfl)
    go_enter Tryd.func47, Tryd.ntmps47
    go_wp2_with (go_at_call 48; refine (within_any _ _ _ _).mono ?_; rintro e _ ⟨rfl, rfl⟩)
    go_ret
    exact ⟨ret_bool hr.out, by exact bel_⟩
  by_cases hn20 : n ≤ 20
  rotate_left
  · have hr := Lib.hid (show false = b by rw [hB.out, h1, h2, decide_eq_false hn20]; rfl)
    have hnI : ¬ ((n : Int) ≤ 20) := by omega
    have hnJ : (20 : Int) < (n : Int) := by omega
    go_enter Tryd.func47, Tryd.ntmps47
    go_wp2_with (go_at_call 48; refine (within_any _ _ _ _).mono ?_; rintro e _ ⟨rfl, rfl⟩)
    go_ret
    exact ⟨ret_bool hr.out, by exact bel_⟩
  have hnI : ¬ ((20 : Int) < (n : Int)) := by omega
  have hQr := inB_true.1 h1
  have hSr := inB_true.1 h2
  obtain ⟨u, hu⟩ : ∃ u, allB n (okM Q S ms) = u := ⟨_, rfl⟩
  have huH := Lib.hid hu
  cases u
  · have hr := Lib.hid (show false = b by rw [hB.out, h1, h2, decide_eq_true hn20, hu]; rfl)
    have huN := Lib.hid (congrArg (fun z => !z) hu)
    simp only [Bool.not_false, Bool.not_true] at huN
    clear hu
    go_enter Tryd.func47, Tryd.ntmps47
    go_wp2_with (go_at_call 48; refine (within_any _ _ _ _).mono ?_; rintro e _ ⟨rfl, rfl⟩)
    refine wp_region_ord [(0, .q), (1, .q), (2, .g), (3, .g), (4, .q), (5, .q), (6, .q), (9, .q), (10, .q), (11, .q), (7, .g), (8, .q), (12, .q), (13, .q), (14, .q)] (by kernel_rfl) (by kernel_rfl) ?_
    simp only [pick, List.filterMap_cons, List.filterMap_nil, List.getElem?_toArray, List.getElem?_cons_zero, List.getElem?_cons_succ, Option.map_some]
    repeat (first | ((with_reducible refine wpD_p (fun K hK => ?_)); go_simp; refine hK _ ?_; clear hK K) | ((with_reducible refine wpD_q (fun K hK => ?_)); go_simp; (first | refine hK _ ?_ | (go_bits; refine hK _ ?_) | (go_bits; go_simp; refine hK _ ?_)); clear hK K))
    with_reducible refine wpD_g (fun K hK => ?_)
    go_simp
    refine ⟨Below.refl _ _, hK _ _ ?_⟩
    clear hK K
    with_reducible refine wpD_g (fun K hK => ?_)
    go_simp
    refine (ContainsFuncM_any w.heap.size Q S MA MA n mc n mc ms ((w.alloc (Obj.cells #[.int .i64 Q, .int .i64 S, .slice MA n mc] 43)).drew) (by go_simp) (by go_simp) (by go_simp) (by go_simp) hQr hSr (hxH.out.below RMv.stable (bl_dr (bl_al (bl_refl _) _))) (by omega) true huN.out).mono ?_
    rintro e w1 ⟨rfl, hb1⟩
    refine ⟨_, rfl, hb1, hK _ _ ?_⟩
    clear hK K
    have hk1 := Lib.hid (show Below w.heap.size w w1 from (bl_dr (bl_al (bl_refl w) (Obj.cells #[.int .i64 Q, .int .i64 S, .slice MA n mc] 43))).trans (hb1.mono (by simp)))
    obtain ⟨chb1, fhb1, shb1, thb1⟩ := bcell hb1
    have lw1 : w.heap.size < w1.heap.size := Nat.lt_of_lt_of_le (by go_simp) hb1.size
    repeat (first | ((with_reducible refine wpD_p (fun K hK => ?_)); go_simp; refine hK _ ?_; clear hK K) | ((with_reducible refine wpD_q (fun K hK => ?_)); go_simp; (first | refine hK _ ?_ | (go_bits; refine hK _ ?_) | (go_bits; go_simp; refine hK _ ?_)); clear hK K))
    repeat (first
      | ((with_reducible refine wpD_p (fun K hK => ?_)); go_simp; refine hK _ ?_; clear hK K)
      | ((with_reducible refine wpD_q (fun K hK => ?_)); go_simp; (first | refine hK _ ?_ | (go_bits; refine hK _ ?_) | (go_bits; go_simp; refine hK _ ?_)); clear hK K)
      | ((with_reducible refine wpD_g (fun K hK => ?_)); go_simp; refine hK _ _ ?_; clear hK K)
      | ((with_reducible refine wpD_g (fun K hK => ?_)); go_simp; refine ⟨Grew.of_alloc _, hK _ _ ?_⟩; clear hK K)
      | ((with_reducible refine wpD_g (fun K hK => ?_)); go_simp; refine ⟨Below.refl _ _, hK _ _ ?_⟩; clear hK K))
    with_reducible refine wpD_nil ?_
    go_wp2
    go_ret
    exact ⟨ret_bool hr.out, hk1.out⟩
  · have hI := Lib.hid (mcB_moves h1 h2 (show allB ms.length (okM Q S ms) = true by rw [hlH.out]; exact hu))
    have hr := Lib.hid (show ((((Maps.size (setM ms) : Nat) : Int) == ((n : Nat) : Int))) = b by rw [hB.out, h1, h2, decide_eq_true hn20, hu, ← hlH.out, size_new hI.out]; simp)
    have huN := Lib.hid (congrArg (fun z => !z) hu)
    simp only [Bool.not_false, Bool.not_true] at huN
    clear hu
    go_enter Tryd.func47, Tryd.ntmps47
    go_wp2_with (go_at_call 48; refine (within_any _ _ _ _).mono ?_; rintro e _ ⟨rfl, rfl⟩)
    refine wp_region_ord [(0, .q), (1, .q), (2, .g), (3, .g), (4, .q), (5, .q), (6, .q), (9, .q), (10, .q), (11, .q), (7, .g), (8, .q), (12, .q), (13, .q), (14, .q)] (by kernel_rfl) (by kernel_rfl) ?_
    simp only [pick, List.filterMap_cons, List.filterMap_nil, List.getElem?_toArray, List.getElem?_cons_zero, List.getElem?_cons_succ, Option.map_some]
    repeat (first | ((with_reducible refine wpD_p (fun K hK => ?_)); go_simp; refine hK _ ?_; clear hK K) | ((with_reducible refine wpD_q (fun K hK => ?_)); go_simp; (first | refine hK _ ?_ | (go_bits; refine hK _ ?_) | (go_bits; go_simp; refine hK _ ?_)); clear hK K))
    with_reducible refine wpD_g (fun K hK => ?_)
    go_simp
    refine ⟨Below.refl _ _, hK _ _ ?_⟩
    clear hK K
    with_reducible refine wpD_g (fun K hK => ?_)
    go_simp
    refine (ContainsFuncM_any w.heap.size Q S MA MA n mc n mc ms ((w.alloc (Obj.cells #[.int .i64 Q, .int .i64 S, .slice MA n mc] 43)).drew) (by go_simp) (by go_simp) (by go_simp) (by go_simp) hQr hSr (hxH.out.below RMv.stable (bl_dr (bl_al (bl_refl _) _))) (by omega) false huN.out).mono ?_
    rintro e w1 ⟨rfl, hb1⟩
    refine ⟨_, rfl, hb1, hK _ _ ?_⟩
    clear hK K
    have hk1 := Lib.hid (show Below w.heap.size w w1 from (bl_dr (bl_al (bl_refl w) (Obj.cells #[.int .i64 Q, .int .i64 S, .slice MA n mc] 43))).trans (hb1.mono (by simp)))
    obtain ⟨chb1, fhb1, shb1, thb1⟩ := bcell hb1
    have lw1 : w.heap.size < w1.heap.size := Nat.lt_of_lt_of_le (by go_simp) hb1.size
    repeat (first | ((with_reducible refine wpD_p (fun K hK => ?_)); go_simp; refine hK _ ?_; clear hK K) | ((with_reducible refine wpD_q (fun K hK => ?_)); go_simp; (first | refine hK _ ?_ | (go_bits; refine hK _ ?_) | (go_bits; go_simp; refine hK _ ?_)); clear hK K))
    with_reducible refine wpD_g (fun K hK => ?_)
    go_simp
    refine (table_any Q S MA n mc ms w1 (hxH.out.below RMv.stable hk1.out) hI.out (by omega)).mono ?_
    rintro e w2 ⟨bk, rfl, hM, hb2⟩
    refine ⟨_, rfl, hb2, hK _ _ ?_⟩
    clear hK K
    have hMH := Lib.hid hM
    obtain ⟨chb2, fhb2, shb2, thb2⟩ := bcell hb2
    have lw2 : w.heap.size < w2.heap.size := Nat.lt_of_lt_of_le (by have := hb1.size; simp at this; omega) hb2.size
    clear hM
    repeat (first | ((with_reducible refine wpD_p (fun K hK => ?_)); go_simp; refine hK _ ?_; clear hK K) | ((with_reducible refine wpD_q (fun K hK => ?_)); go_simp; (first | refine hK _ ?_ | (go_bits; refine hK _ ?_) | (go_bits; go_simp; refine hK _ ?_)); clear hK K))
    refine wpD_lenK (by go_simp) _ rfl bk ms (by go_simp) hMH.out ?_
    repeat (first | ((with_reducible refine wpD_p (fun K hK => ?_)); go_simp; refine hK _ ?_; clear hK K) | ((with_reducible refine wpD_q (fun K hK => ?_)); go_simp; (first | refine hK _ ?_ | (go_bits; refine hK _ ?_) | (go_bits; go_simp; refine hK _ ?_)); clear hK K))
    with_reducible refine wpD_nil ?_
    go_wp2
    go_ret
    exact ⟨ret_bool hr.out, hk1.out.trans (hb2.mono (by omega))⟩
end Go.Proofs.YtkiamhpapkgboaaDoor
