import Derived.Test.YtmhgjgclclnmaaaGreatW17
import Derived.Test.YtmhgjgclclnmaaaGreatW17a
import Derived.Test.YtmhgjgclclnmaaaGreatW20a
import Derived.Test.YtmhgjgclclnmaaaGreatKV
import Derived.Lib.LazyBuf
import Derived.Lib.SliceRun
import Derived.Test.YtmhgjgclclnmaaaGreatKD
set_option linter.unusedSimpArgs false
set_option linter.unusedVariables false
/- Walks: BondsOf, the program's and the reference's. -/



namespace Go.Proofs.YtmhgjgclclnmaaaGreat
open Go.RowKit Go.Shelf
attribute [local go_sem] BelowBy.cell BelowBy.cell_drew stillUpon givesUpon BelowBy.cell_drew2 BelowBy.cell_drew3

/-- a row of bonds and a code -/
def BdsRes (w : World) (r : List Bd × Int) (e : Ending) (w' : World) : Prop :=
  ∃ A c, e = .returned (.tuple #[.slice A r.1.length c, .int .i64 r.2]) ∧ w'.ownsRow w.heap.size 49 3 (.slice A r.1.length c) r.1.length (bdCells r.1) ∧ Below w.heap.size w w'
theorem BdsRes.of {w w' : World} {r : List Bd × Int} {bs : List Bd} {c : Int} {v : Value} (h : (bs, c) = r) (hr : w'.ownsRow w.heap.size 49 3 v bs.length (bdCells bs)) (hb : Below w.heap.size w w') : BdsRes w r (.returned (.tuple #[v, .int .i64 c])) w' := by
  subst h
  obtain ⟨A, cap, rfl, _⟩ := rd_of_row hr
  exact ⟨A, cap, rfl, hr, hb⟩
noncomputable def bondsOfR (gs : List Gl) (ts : List Ti) (xs : List Pl) : List Bd × Int := if validAsmB gs ts xs = true then (bondsL gs ts xs, 0) else ([], 1)
end Go.Proofs.YtmhgjgclclnmaaaGreat
/- Walks: a list of bonds copied; its bonds struck out that a condition meets; the strength of a cut. -/





namespace Go.Proofs.YtmhgjgclclnmaaaGreat
open Go.RowKit Go.Shelf
attribute [local go_sem] BelowBy.cell BelowBy.cell_drew stillUpon givesUpon BelowBy.cell_drew2 BelowBy.cell_drew3

theorem bdCells_oneC (bs : List Bd) : ∀ u ∈ bdCells bs, u.oneCell' = true := by
  induction bs with
  | nil => simp [bdCells]
  | cons b l ih =>
    intro u hu
    simp only [bdCells, List.mem_cons] at hu
    rcases hu with rfl | rfl | rfl | hu
    · rfl
    · rfl
    · rfl
    · exact ih u hu
def OwnResC (w : World) (bs : List Bd) (e : Ending) (w' : World) : Prop := ∃ v, e = .returned v ∧ w'.ownsRow w.heap.size 49 3 v bs.length (bdCells bs) ∧ Below w.heap.size w w'
set_option maxRecDepth 100000 in
set_option maxHeartbeats 1000000 in
theorem CloneB_anyC (base : Nat) (v : Value) (bs : List Bd) (w : World) (h : w.ownsRow base 49 3 v bs.length (bdCells bs)) (hn : bs.length ≤ 100000) :
    Calls Tryz.prog 109 #[v] w (OwnResC w bs) := by
  obtain ⟨i0, hi, hz0, hz1, hz2⟩ := info_parts infoBond
  rcases h.2 with ⟨rfl, h0⟩ | ⟨g, cap, cur, rfl, hb, hh, hnc, hm, hs, ht⟩
  · have hb : bs = [] := List.eq_nil_of_length_eq_zero h0
    subst hb
    have hq := fun W => Lib.run_eql_slice_nil (P := Tryz.prog) W 44 49 none 0 0 0 0 Tryz.underlying44
    clear h
    go_enter Tryz.func109, Tryz.ntmps109
    go_wp2
    go_ret
    exact ⟨_, rfl, World.ownsRow_nil _ _ _ _, bl_refl _⟩
  · have hq := fun W => Lib.run_eql_slice_nil (P := Tryz.prog) W 44 49 (some ⟨g, 0, none⟩) bs.length cap 0 0 Tryz.underlying44
    have hcell := h.cells (g := g) rfl
    have hcellH := Lib.hid hcell
    have hlt := (Array.getElem?_eq_some_iff.1 hh).1
    have hlen := h.1
    have hlenH := Lib.hid hlen
    clear h hcell hh hs ht hlen
    obtain ⟨L, hL⟩ : ∃ L, bs.length = L := ⟨_, rfl⟩
    rw [hL] at hn hnc hlenH hq
    rw [hL]
    have hLH := Lib.hid hL
    clear hL
    go_enter Tryz.func109, Tryz.ntmps109
    go_wp2_with (at_builtin; go_loud (refine wpList_append_own _ rfl _ _ 44 rfl w.heap.size 49 i0 (.agg #[.int .i64 0, .int .i64 0, .int .i64 0]) 3 24 Tryz.underlying44 hi hz0 hz1 hz2 rfl (by decide) _ 0 [] rfl (World.ownsRow_made _ _ _ (Nat.le_refl _) (by decide) rfl) ⟨g, 0, none⟩ L cap (bdCells bs) rfl hlenH.out (fun j u hj => (World.cell?_alloc_lt _ _ _ (by rw [Addr.add_lit]; exact hlt)).trans (hcellH.out j u hj)) (bdCells_oneC bs) (by unfold maxLen; omega) (by omega) (by simp) ?_); intro v' w3 hown' hgrow _)
    go_ret
    refine ⟨_, rfl, ?_, ((Below.refl w.heap.size w).alloc (Nat.le_refl _) _).grown hgrow (by simp) (fun b' hb' => ?_)⟩
    · rw [hLH.out]
      simpa using hown'
    · have hb2 : some w.heap.size = some b' := hb'
      injection hb2 with hb3
      exact Nat.le_of_eq hb3
/-- what is struck out of a cut's bonds -/
def cutDel (ps : List Int) (b : Bd) : Bool := hasB ps b.a == hasB ps b.b
set_option maxHeartbeats 1000000 in
theorem cut1_any (p : Nat) (A : Option Addr) (n c : Nat) (ps : List Int) (e : Bd) (w : World) (hp : w.cell? ⟨p, 0, none⟩ = some (.slice A n c)) (hlt : p < w.heap.size) (h : RdSl 1 RInt w A n ps) (hn : n ≤ 1073741824) :
    Calls Tryz.prog 110 #[.agg #[.int .i64 (e.a : Int), .int .i64 (e.b : Int), .int .i64 e.s], .pointer (some ⟨p, 0, none⟩)] w fun e' w' => e' = .returned (.bool (cutDel ps e)) ∧ Below w.heap.size w w' := by
  have hH := Lib.hid h
  have hpl := Nat.le_of_lt hlt
  clear h
  go_enter Tryz.func110, Tryz.ntmps110
  go_wp2
  refine wp_region_ord [(0, .q), (1, .q), (2, .q), (4, .q), (5, .q), (6, .q), (3, .g), (7, .g), (8, .q), (9, .q)] (by kernel_rfl) (by kernel_rfl) ?_
  simp only [pick, List.filterMap_cons, List.filterMap_nil, List.getElem?_toArray, List.getElem?_cons_zero, List.getElem?_cons_succ, Option.map_some]
  repeat (first
    | ((with_reducible refine wpD_p (fun K hK => ?_)); go_simp; refine hK _ ?_; clear hK K)
    | ((with_reducible refine wpD_q (fun K hK => ?_)); go_simp; (first | refine hK _ ?_ | (go_bits; refine hK _ ?_) | (go_bits; go_simp; refine hK _ ?_)); clear hK K)
    | ((with_reducible refine wpD_g (fun K hK => ?_)); go_simp; refine hK _ _ ?_; clear hK K)
    | ((with_reducible refine wpD_g (fun K hK => ?_)); go_simp; refine ⟨Grew.of_alloc _, hK _ _ ?_⟩; clear hK K)
    | ((with_reducible refine wpD_g (fun K hK => ?_)); go_simp; go_at_call 111; refine (ContainsI_any _ _ _ ps _ _ (hH.out.below RInt.stable (by exact bel_)) hn).mono ?_; rintro e _ ⟨rfl, rfl⟩; refine ⟨_, rfl, Below.refl _ _, hK _ _ ?_⟩; clear hK K))
  with_reducible refine wpD_nil ?_
  go_wp2
  go_ret
  exact ⟨ret_bool rfl, by exact bel_⟩
def FirstKC (w : World) (n : Nat) (del : Nat → Bool) (e : Ending) (w' : World) : Prop :=
  ((e = .returned (.int .i64 (-1)) ∧ ∀ j, j < n → del j = false) ∨ ∃ k : Nat, k < n ∧ e = .returned (.int .i64 (k : Int)) ∧ del k = true ∧ ∀ j, j < k → del j = false) ∧ Below w.heap.size w w'
def delAtC (ps : List Int) (bs : List Bd) (j : Nat) : Bool := match bs[j]? with
  | none => false
  | some b => cutDel ps b
theorem delAt_eqC {ps : List Int} {bs : List Bd} {j : Nat} {b : Bd} (h : bs[j]? = some b) : delAtC ps bs j = cutDel ps b := by unfold delAtC; rw [h]
set_option maxHeartbeats 1000000 in
theorem IndexFuncB_anyC (p : Nat) (A P_ : Option Addr) (n c np cp : Nat) (ps : List Int) (bs : List Bd) (w : World) (hp : w.cell? ⟨p, 0, none⟩ = some (.slice P_ np cp)) (hlt : p < w.heap.size) (h : RdSl 1 RInt w P_ np ps) (hnp : np ≤ 1073741824) (hB : RdSl 3 RBd w A n bs) (hn : n ≤ 100000) :
    Calls Tryz.prog 156 #[.slice A n c, .func (.func 110) #[] #[.pointer (some ⟨p, 0, none⟩)]] w (FirstKC w n (delAtC ps bs)) := by
  have hH := Lib.hid h
  clear h
  go_enter Tryz.func156, Tryz.ntmps156
  go_wp2
  go_loopg [8] n (fun r x wr => ∃ k : Nat, k + r = n ∧ x = .int .i64 (k : Int) ∧ Hid (∀ j, j < k → delAtC ps bs j = false) ∧ Below w.heap.size w wr)
  case atStart => exact ⟨0, by omega, rfl, Lib.hid (fun j hj => by omega), bl_refl _⟩
  case round =>
    obtain ⟨k, hk, rfl, hno, hbw⟩ := hrel
    have g1 := (hbw.cell (p := ⟨p, 0, none⟩) hlt).trans hp
    have gp := Nat.lt_of_lt_of_le hlt hbw.size
    have hB' := hB.below RBd.stable hbw
    by_cases hkn : k < n
    · obtain ⟨b, o, rfl, hb, hc⟩ := hB'.ptr (by omega)
      obtain ⟨e, he⟩ := hB.get hkn
      obtain ⟨c0, c1, c2⟩ := hc k e he
      have hd := delAt_eqC (ps := ps) he
      cases hv : cutDel ps e
      · have hdH := Lib.hid (hd.trans hv)
        have hvH := Lib.hid hv
        clear hc he hB hB' hd hv
        go_wp2_with fail
        refine (cut1_any p P_ np cp ps e _ g1 gp (hH.out.below RInt.stable hbw) hnp).mono ?_
        rw [hvH.out]
        rintro e' w1 ⟨rfl, hb1⟩
        go_wp2
        go_roundg (n - (k + 1))
        case measure => omega
        case rel => exact ⟨k + 1, by omega, by go_num, Lib.hid (fun j hj => by
          rcases Nat.lt_succ_iff_lt_or_eq.1 hj with hj | rfl
          · exact hno.out j hj
          · exact hdH.out), bl_tr hbw hb1⟩
      · have hdH := Lib.hid (hd.trans hv)
        have hvH := Lib.hid hv
        clear hc he hB hB' hd hv
        go_wp2_with fail
        refine (cut1_any p P_ np cp ps e _ g1 gp (hH.out.below RInt.stable hbw) hnp).mono ?_
        rw [hvH.out]
        rintro e' w1 ⟨rfl, hb1⟩
        go_wp2
        go_ret
        exact ⟨Or.inr ⟨k, hkn, rfl, hdH.out, hno.out⟩, bl_tr hbw hb1⟩
    · obtain rfl : k = n := by omega
      clear hB'
      go_wp2
      go_ret
      exact ⟨Or.inl ⟨rfl, hno.out⟩, hbw⟩
end Go.Proofs.YtmhgjgclclnmaaaGreat
/- Walks: bonds struck out of a row of the call's own. -/

namespace Go.Proofs.YtmhgjgclclnmaaaGreat
open Go.RowKit Go.Shelf
attribute [local go_sem] BelowBy.cell BelowBy.cell_drew stillUpon givesUpon BelowBy.cell_drew2 BelowBy.cell_drew3

theorem run_clear_rowsC {P : Program} (w : World) (t e ty : TypeId) (z : Value) (ht : P.underlying t = some (.slice e)) (hv : ∀ w, (zeroValue e).run P w = .ok z w) (b o n c : Nat) (hn : 0 < n)
    (hc : ∀ j, j < n * z.cells.size → (w.cell? ⟨b, o + j, none⟩).isSome = true) (hf : ∀ j, j < n * z.cells.size → w.frozen? ⟨b, o + j, none⟩ = false) (h1 : ∀ u ∈ (Builtin.zeroCells z.cells n).toList, u.oneCell' = true) :
    (Builtin.clear_ #[t] ty #[.slice (some ⟨b, o, none⟩) n c]).run P w = .ok (.tuple #[]) (w.setCells b o (Builtin.zeroCells z.cells n).toList) := by
  have hlen : (Builtin.zeroCells z.cells n).toList.length = n * z.cells.size := by simp [size_zeroCells]
  have hst := run_storeCells_cells (P := P) b o (Builtin.zeroCells z.cells n).toList 0 w (by rw [hlen]; simpa using hc) (by rw [hlen]; simpa using hf) h1
  simp only [Nat.add_zero] at hst
  obtain ⟨m, rfl⟩ : ∃ m, n = m + 1 := ⟨n - 1, by omega⟩
  simp [Builtin.clear_, run_underlying ht, hv, hst]
theorem zero3C (n : Nat) : ∀ u ∈ (Builtin.zeroCells #[Value.int .i64 0, .int .i64 0, .int .i64 0] n).toList, u.oneCell' = true := by
  intro u hu
  simp only [Builtin.zeroCells, Array.toList_map, List.mem_map] at hu
  obtain ⟨i, _, rfl⟩ := hu
  have : i % 3 = 0 ∨ i % 3 = 1 ∨ i % 3 = 2 := by omega
  rcases this with h | h | h <;> simp [h] <;> rfl
theorem RdSl.belowI {B : Nat} {w w' : World} {A : Option Addr} {n : Nat} {ps : List Int} (h : RdSl 1 RInt w A n ps) (hA : 0 < n → ∀ b o, A = some ⟨b, o, none⟩ → b < B) (hb : Below B w w') : RdSl 1 RInt w' A n ps :=
  ⟨h.len, fun hn => by
    obtain ⟨b, o, e, hlt, hc⟩ := h.cells hn
    exact ⟨b, o, e, Nat.lt_of_lt_of_le hlt hb.size, fun k hk => (hb.cell (p := ⟨b, o + k * 1, none⟩) (hA hn b o e)).trans (hc k hk)⟩⟩
def keepLC (ps : List Int) (bs : List Bd) (k : Nat) : List Bd := (bs.take k).filter fun b => !cutDel ps b
theorem keepL_succ_yesC {ps : List Int} {bs : List Bd} {k : Nat} {e : Bd} (he : bs[k]? = some e) (h : cutDel ps e = false) : keepLC ps bs (k + 1) = keepLC ps bs k ++ [e] := by
  obtain ⟨hk, rfl⟩ := List.getElem?_eq_some_iff.1 he
  unfold keepLC; rw [List.take_succ_eq_append_getElem hk, List.filter_append]; simp [h]
theorem keepL_succ_noC {ps : List Int} {bs : List Bd} {k : Nat} {e : Bd} (he : bs[k]? = some e) (h : cutDel ps e = true) : keepLC ps bs (k + 1) = keepLC ps bs k := by
  obtain ⟨hk, rfl⟩ := List.getElem?_eq_some_iff.1 he
  unfold keepLC; rw [List.take_succ_eq_append_getElem hk, List.filter_append]; simp [h]
theorem keepL_lenC (ps : List Int) (bs : List Bd) (k : Nat) : (keepLC ps bs k).length ≤ k := Nat.le_trans (List.length_filter_le _ _) (List.length_take_le _ _)
theorem keepL_allC {ps : List Int} {bs : List Bd} {k : Nat} (h : ∀ j, j < k → delAtC ps bs j = false) : keepLC ps bs k = bs.take k := by
  unfold keepLC
  rw [List.filter_eq_self]
  intro b hb
  obtain ⟨j, hj, rfl⟩ := List.mem_iff_getElem.1 hb
  have hj' : j < k ∧ j < bs.length := by simp at hj; omega
  have := h j hj'.1
  rw [delAt_eqC (List.getElem?_eq_getElem hj'.2)] at this
  simpa using this
/-- what is left of a row of bonds -/
def DelResC (base : Nat) (w : World) (l : List Bd) (e : Ending) (w' : World) : Prop := ∃ A c, e = .returned (.slice A l.length c) ∧ RdSl 3 RBd w' A l.length l ∧ Below base w w'
theorem DelResC.of {base n : Nat} {w w' : World} {l : List Bd} {A : Option Addr} {c : Nat} (hn : n = l.length) (h : RdSl 3 RBd w' A l.length l) (hb : Below base w w') : DelResC base w l (.returned (.slice A n c)) w' := by
  subst hn; exact ⟨A, c, rfl, h, hb⟩
set_option maxRecDepth 100000 in
set_option maxHeartbeats 4000000 in
theorem DeleteFuncB_anyC (base p : Nat) (P_ : Option Addr) (np cp : Nat) (ps : List Int) (v : Value) (bs : List Bd) (w : World) (hrow : w.ownsRow base 49 3 v bs.length (bdCells bs)) (hn : bs.length ≤ 100000)
    (hp : w.cell? ⟨p, 0, none⟩ = some (.slice P_ np cp)) (hpb : p < base) (hbz : base ≤ w.heap.size) (h : RdSl 1 RInt w P_ np ps) (hnp : np ≤ 1073741824) (hPb : 0 < np → ∀ b o, P_ = some ⟨b, o, none⟩ → b < base) :
    Calls Tryz.prog 108 #[v, .func (.func 110) #[] #[.pointer (some ⟨p, 0, none⟩)]] w (DelResC base w (keepLC ps bs bs.length)) := by
  obtain ⟨A, cap, rfl, rdb⟩ := rd_of_row hrow
  obtain ⟨n, hnn⟩ : ∃ n, bs.length = n := ⟨_, rfl⟩
  rw [hnn] at hn rdb hrow
  rw [hnn]
  have hnnH := Lib.hid hnn
  have hH := Lib.hid h
  have hpl : p < w.heap.size := by omega
  have hpO := Lib.hid hp
  have hPbH := Lib.hid hPb
  clear h hnn hPb
  go_enter Tryz.func108, Tryz.ntmps108
  go_wp2_with fail
  refine (IndexFuncB_anyC p A P_ n cap np cp ps bs _ hp hpl hH.out hnp rdb hn).mono ?_
  rintro e w1 ⟨(⟨rfl, hall⟩ | ⟨k, hkn, rfl, hdk, hall⟩), hb1⟩
  · have hallH := Lib.hid hall
    have rdH := Lib.hid (rdb.below RBd.stable hb1)
    have hK := keepL_allC (ps := ps) (bs := bs) (k := n) hall
    rw [List.take_of_length_le (by rw [hnnH.out]; exact Nat.le_refl _)] at hK
    have hKH := Lib.hid hK
    clear hall rdb hrow hK
    go_wp2
    go_ret
    rw [hKH.out]
    exact DelResC.of hnnH.out.symm (by rw [hnnH.out]; exact rdH.out) (hb1.mono hbz)
  · have hk1 : ¬ ((k : Int) = -1) := by omega
    have hk1' : ((k : Int) == -1) = false := by simp
    rcases hrow.2 with ⟨h0, h0'⟩ | ⟨g, cap', cur, hv, hb, hh, hnc, hm, hs, ht⟩
    · omega
    obtain ⟨rfl, -, rfl⟩ : A = some ⟨g, 0, none⟩ ∧ n = n ∧ cap = cap' := by injection hv with a1 a2 a3; exact ⟨a1, a2, a3⟩
    have hgl : g < w.heap.size := (Array.getElem?_eq_some_iff.1 hh).1
    have hh1 := (hb1.block g hgl).trans hh
    have hrow1 : w1.rowIs g 49 (cap * 3) (fun i => cur.getD i undef) := by
      refine ⟨cur, hh1, hs, fun i hi => ?_⟩
      have : i < cur.size := by omega
      simp [this]
    have hget : ∀ q b, bs[q]? = some b → q < n → cur.getD (q * 3) undef = .int .i64 (b.a : Int) ∧ cur.getD (q * 3 + 1) undef = .int .i64 (b.b : Int) ∧ cur.getD (q * 3 + 2) undef = .int .i64 b.s := by
      intro q b hq hqn
      obtain ⟨x0, x1, x2⟩ := bdCells_get bs q b hq
      rw [← ht, List.getElem?_take_of_lt (by omega)] at x0 x1 x2
      simp only [Array.getElem?_toList] at x0 x1 x2
      simp [Array.getD_eq_getD_getElem?, x0, x1, x2]
    have hkeep0 := keepL_allC (ps := ps) (bs := bs) (k := k) hall
    obtain ⟨ek, hek⟩ : ∃ e, bs[k]? = some e := ⟨_, List.getElem?_eq_getElem (by rw [hnnH.out]; exact hkn)⟩
    have hkeep1 := keepL_succ_noC (ps := ps) hek (by rw [← delAt_eqC (ps := ps) hek]; exact hdk)
    have hkl : k = (keepLC ps bs (k + 1)).length := by rw [hkeep1, hkeep0]; simp; rw [hnnH.out]; omega
    obtain ⟨F0, hF0⟩ : ∃ F : Nat → Bd, ∀ q b, bs[q]? = some b → F q = b := ⟨fun q => match bs[q]? with | some b => b | none => ⟨0, 0, 0⟩, fun q b h => by simp only [h]⟩
    have hst : Hid (k = (keepLC ps bs (k + 1)).length ∧ (∀ q b, (keepLC ps bs (k + 1))[q]? = some b → F0 q = b) ∧ (∀ q b, k + 1 ≤ q → bs[q]? = some b → F0 q = b)) := by
      refine Lib.hid ⟨hkl, fun q b hq => ?_, fun q b _ hq => hF0 q b hq⟩
      rw [hkeep1, hkeep0, List.getElem?_take] at hq
      split at hq
      · exact hF0 q b hq
      · cases hq
    have hf0 : Hid (∀ q, q < n → (fun i => cur.getD i undef) (q * 3) = .int .i64 ((F0 q).a : Int) ∧ (fun i => cur.getD i undef) (q * 3 + 1) = .int .i64 ((F0 q).b : Int) ∧ (fun i => cur.getD i undef) (q * 3 + 2) = .int .i64 (F0 q).s) := Lib.hid fun q hq => by
      obtain ⟨b, hqb⟩ : ∃ b, bs[q]? = some b := ⟨_, List.getElem?_eq_getElem (by rw [hnnH.out]; exact hq)⟩
      rw [hF0 q b hqb]
      exact hget q b hqb hq
    have hB1 := Lib.hid (hb1.mono hbz)
    have hbg := hb
    clear hkl hF0 hget hkeep0 hkeep1 hek hall rdb hrow hh hh1 hs ht hv hb1 hp hdk
    go_wp2
    go_loopg [5, 6] (n - (k + 1)) (fun r x y wr => ∃ (i j : Nat) (F : Nat → Bd) (f : Nat → Value), j + r = n ∧ i < j ∧ x = .int .i64 (i : Int) ∧ y = .int .i64 (j : Int) ∧ Hid (i = (keepLC ps bs j).length ∧ (∀ q b, (keepLC ps bs j)[q]? = some b → F q = b) ∧ (∀ q b, j ≤ q → bs[q]? = some b → F q = b)) ∧ wr.rowIs g 49 (cap * 3) f ∧ Hid (∀ q, q < n → f (q * 3) = .int .i64 ((F q).a : Int) ∧ f (q * 3 + 1) = .int .i64 ((F q).b : Int) ∧ f (q * 3 + 2) = .int .i64 (F q).s) ∧ Below base w wr)
    case atStart => exact ⟨k, k + 1, F0, _, by omega, by omega, rfl, by go_num, hst, hrow1, hf0, hB1.out⟩
    case round =>
      obtain ⟨i, j, F, f, hj, hij, rfl, rfl, hst', hrw, hf, hbw⟩ := hrel
      clear hst hf0 hrow1
      have hgw : g < wr.heap.size := hrw.lt
      have g1 := (hbw.cell (p := ⟨p, 0, none⟩) hpb).trans hpO.out
      have gp := Nat.lt_of_lt_of_le hpl hbw.size
      by_cases hlt : j < n
      · obtain ⟨e, he⟩ : ∃ e, bs[j]? = some e := ⟨_, List.getElem?_eq_getElem (by rw [hnnH.out]; exact hlt)⟩
        have hFj := hst'.out.2.2 j e (Nat.le_refl _) he
        obtain ⟨v0, v1, v2⟩ := hf.out j hlt
        rw [hFj] at v0 v1 v2
        have c0 := hrw.cell (i := j * 3) (by omega)
        have c1 := hrw.cell (i := j * 3 + 1) (by omega)
        have c2 := hrw.cell (i := j * 3 + 2) (by omega)
        rw [v0] at c0
        rw [v1] at c1
        rw [v2] at c2
        have heH := Lib.hid he
        have hrwH := Lib.hid hrw
        clear v0 v1 v2 hFj he hrw
        cases hcd : cutDel ps e
        · have hnx := Lib.hid (keepL_succ_yesC heH.out hcd)
          have hcdH := Lib.hid hcd
          clear hcd
          go_wp2_with fail
          refine (cut1_any p P_ np cp ps e _ (by go_simp) (by simp; omega) ((hH.out.belowI hPbH.out hbw).below RInt.stable (by exact bel_)) hnp).mono ?_
          rw [hcdH.out]
          rintro e' w2 ⟨rfl, hb2⟩
          have hrw2 := hrwH.out.of_block ((hb2.block g (by simp; omega)).trans (Below.heap_alloc _ _ _ hgw))
          have d0 := hrw2.cell (i := i * 3) (by omega)
          have d1 := hrw2.cell (i := i * 3 + 1) (by omega)
          have d2 := hrw2.cell (i := i * 3 + 2) (by omega)
          have k0 := hrw2.frozen (i * 3)
          have k1 := hrw2.frozen (i * 3 + 1)
          have k2 := hrw2.frozen (i * 3 + 2)
          have x0 : w2.cell? ⟨wr.heap.size, 0, none⟩ = some (.int .i64 (e.a : Int)) := (hb2.cell (p := ⟨wr.heap.size, 0, none⟩) (by simp)).trans (by go_simp)
          have x1 : w2.cell? ⟨wr.heap.size, 1, none⟩ = some (.int .i64 (e.b : Int)) := (hb2.cell (p := ⟨wr.heap.size, 1, none⟩) (by simp)).trans (by go_simp)
          have x2 : w2.cell? ⟨wr.heap.size, 2, none⟩ = some (.int .i64 e.s) := (hb2.cell (p := ⟨wr.heap.size, 2, none⟩) (by simp)).trans (by go_simp)
          have hB2 : Below base w w2 := hbw.trans (Below.mono (bl_tr (bl_al (bl_refl _) _) hb2) (Nat.le_trans hbz hbw.size))
          have hB2H := Lib.hid hB2
          have hrw2H := Lib.hid hrw2
          have hin : i < n := by omega
          clear c0 c1 c2 hb2 hB2 hrw2 g1
          go_wp2
          go_roundg (n - (j + 1))
          case measure => omega
          case rel => exact ⟨i + 1, j + 1, fun q => if q = i then e else F q, _, by omega, by omega, by go_num, by go_num, Lib.hid ⟨by
              rw [hnx.out, List.length_append, ← hst'.out.1]; rfl, fun q b hq => by
              rw [hnx.out] at hq
              have hil := hst'.out.1
              rcases Nat.lt_or_ge q i with hqi | hqi
              · rw [List.getElem?_append_left (by omega)] at hq
                show (if q = i then e else F q) = b
                rw [if_neg (by omega)]; exact hst'.out.2.1 q b hq
              · rw [List.getElem?_append_right (by omega)] at hq
                have : q - (keepLC ps bs j).length = 0 := by
                  rcases Nat.eq_zero_or_pos (q - (keepLC ps bs j).length) with h0 | h0
                  · exact h0
                  · rw [List.getElem?_eq_none (by simp; omega)] at hq; cases hq
                rw [this] at hq
                show (if q = i then e else F q) = b
                rw [if_pos (by omega)]; simpa using hq, fun q b hq hb => by
              show (if q = i then e else F q) = b
              rw [if_neg (by omega)]; exact hst'.out.2.2 q b (by omega) hb⟩, ((hrw2H.out.set (i * 3) _).set (i * 3 + 1) _).set (i * 3 + 2) _, Lib.hid (fun q hq => by
              obtain ⟨u0, u1, u2⟩ := hf.out q hq
              by_cases hqi : q = i
              · subst hqi
                simp
              · rw [if_neg (by omega), if_neg (by omega), if_neg (by omega), if_neg (by omega), if_neg (by omega), if_neg (by omega), if_neg (by omega), if_neg (by omega), if_neg (by omega)]
                show f (q * 3) = Value.int .i64 ((if q = i then e else F q).a : Int) ∧ f (q * 3 + 1) = Value.int .i64 ((if q = i then e else F q).b : Int) ∧ f (q * 3 + 2) = Value.int .i64 (if q = i then e else F q).s
                rw [if_neg hqi]
                exact ⟨u0, u1, u2⟩), ((hB2H.out.setCell (p := ⟨g, i * 3, none⟩) hbg _).setCell (p := ⟨g, i * 3 + 1, none⟩) hbg _).setCell (p := ⟨g, i * 3 + 2, none⟩) hbg _⟩
        · have hnx := Lib.hid (keepL_succ_noC heH.out hcd)
          have hcdH := Lib.hid hcd
          clear hcd
          go_wp2_with fail
          refine (cut1_any p P_ np cp ps e _ (by go_simp) (by simp; omega) ((hH.out.belowI hPbH.out hbw).below RInt.stable (by exact bel_)) hnp).mono ?_
          rw [hcdH.out]
          rintro e' w2 ⟨rfl, hb2⟩
          have hrw2 := hrwH.out.of_block ((hb2.block g (by simp; omega)).trans (Below.heap_alloc _ _ _ hgw))
          have hB2 : Below base w w2 := hbw.trans (Below.mono (bl_tr (bl_al (bl_refl _) _) hb2) (Nat.le_trans hbz hbw.size))
          have hB2H := Lib.hid hB2
          have hrw2H := Lib.hid hrw2
          clear c0 c1 c2 hb2 hB2 hrw2 g1
          go_wp2
          go_roundg (n - (j + 1))
          case measure => omega
          case rel => exact ⟨i, j + 1, F, _, by omega, by omega, rfl, by go_num, Lib.hid ⟨by rw [hnx.out]; exact hst'.out.1, fun q b hq => by rw [hnx.out] at hq; exact hst'.out.2.1 q b hq, fun q b hq hb => hst'.out.2.2 q b (by omega) hb⟩, hrw2H.out, hf, hB2H.out⟩
      · obtain rfl : j = n := by omega
        have hcl := fun (ty : TypeId) => run_clear_rowsC (P := Tryz.prog) wr 44 49 ty _ Tryz.underlying44 Tryz.zeroValue49 g (i * 3) (j - i) (cap - i) (by omega) (fun q hq => by rw [hrw.cell (i := i * 3 + q) (by simp [Value.cells] at hq; omega)]; rfl) (fun q hq => hrw.frozen _) (zero3C _)
        have hci : ¬ cap = i := by omega
        go_wp2
        go_ret
        obtain ⟨zs, hzs⟩ : ∃ zs, (Builtin.zeroCells #[Value.int .i64 0, Value.int .i64 0, Value.int .i64 0] (j - i)).toList = zs := ⟨_, rfl⟩
        rw [hzs]
        have hrw3 := Go.rowIs_setCells zs (i * 3) wr f hrw
        have hil := hst'.out.1
        have hfin := hst'.out.2.1
        have hrd : RdSl 3 RBd (wr.setCells g (i * 3) zs) (some ⟨g, 0, none⟩) (keepLC ps bs j).length (keepLC ps bs j) := by
          refine ⟨rfl, fun _ => ⟨g, 0, rfl, hrw3.lt, fun q hq => ?_⟩⟩
          have hFq := hfin q _ (List.getElem?_eq_getElem hq)
          obtain ⟨u0, u1, u2⟩ := hf.out q (by omega)
          rw [hFq] at u0 u1 u2
          refine ⟨?_, ?_, ?_⟩
          · rw [Nat.zero_add, hrw3.cell (i := q * 3) (by omega), if_neg (by omega), u0]
          · rw [Nat.zero_add, hrw3.cell (i := q * 3 + 1) (by omega), if_neg (by omega), u1]
          · rw [Nat.zero_add, hrw3.cell (i := q * 3 + 2) (by omega), if_neg (by omega), u2]
        exact DelResC.of hil hrd (Go.below_setCells hbg zs (i * 3) wr hbw)
end Go.Proofs.YtmhgjgclclnmaaaGreat
/- Walks: CutStrength, the program's and the reference's. -/


namespace Go.Proofs.YtmhgjgclclnmaaaGreat
open Go.RowKit Go.Shelf
attribute [local go_sem] BelowBy.cell BelowBy.cell_drew stillUpon givesUpon BelowBy.cell_drew2 BelowBy.cell_drew3

theorem keepL_getC {ps : List Int} {bs : List Bd} {k j : Nat} {b : Bd} (h : (keepLC ps bs k)[j]? = some b) : ∃ q : Nat, bs[q]? = some b := by
  have hm := List.mem_of_getElem? h
  unfold keepLC at hm
  obtain ⟨h1, _⟩ := List.mem_filter.1 hm
  obtain ⟨q, hq, rfl⟩ := List.mem_iff_getElem.1 (List.mem_of_mem_take h1)
  exact ⟨q, List.getElem?_eq_getElem hq⟩
set_option maxRecDepth 100000 in
set_option maxHeartbeats 1000000 in
theorem cutStrength_any (base : Nat) (P_ : Option Addr) (np cp : Nat) (ps : List Int) (v : Value) (bs : List Bd) (w : World) (hrow : w.ownsRow base 49 3 v bs.length (bdCells bs)) (hn : bs.length ≤ 100000) (hs : ∀ (k : Nat) (b : Bd), bs[k]? = some b → 0 ≤ b.s ∧ b.s ≤ 4)
    (h : RdSl 1 RInt w P_ np ps) (hnp : np ≤ 1073741824) :
    Calls Tryz.prog 55 #[v, .slice P_ np cp] w fun e w' => e = .returned (.int .i64 (sumB (keepLC ps bs bs.length))) ∧ Below w.heap.size w w' := by
  have hH := Lib.hid h
  have hrH := Lib.hid hrow
  have hPb : 0 < np → ∀ b o, P_ = some ⟨b, o, none⟩ → b < w.heap.size + 1 := fun hp b o e => by
    obtain ⟨b', o', e', hb', _⟩ := h.cells hp
    rw [e] at e'
    injection e' with e'
    injection e' with e1 e2
    omega
  have hPbH := Lib.hid hPb
  have hsH := Lib.hid hs
  clear h hrow hPb hs
  go_enter Tryz.func55, Tryz.ntmps55
  go_wp2_with fail
  refine (CloneB_anyC base v bs _ (hrH.out.alloc _) hn).mono ?_
  rintro e w1 ⟨v1, rfl, hrow1, hb1⟩
  have hz1 : (w.alloc (Obj.cells #[.slice P_ np cp] 33)).heap.size = w.heap.size + 1 := by simp
  rw [hz1] at hrow1
  have hs1 : w.heap.size + 1 ≤ w1.heap.size := by have := hb1.size; simp at this; omega
  have x0 : w1.cell? ⟨w.heap.size, 0, none⟩ = some (.slice P_ np cp) := (hb1.cell (p := ⟨w.heap.size, 0, none⟩) (by simp)).trans (by go_simp)
  have hR1 := Lib.hid (hH.out.below RInt.stable (show Below w.heap.size w w1 by exact bel_))
  have hB1 := Lib.hid (show Below w.heap.size w w1 by exact bel_)
  have hrow1H := Lib.hid hrow1
  clear hrow1 hb1 hz1
  go_wp2_with fail
  refine (DeleteFuncB_anyC (w.heap.size + 1) w.heap.size P_ np cp ps v1 bs _ hrow1H.out hn x0 (by omega) hs1 hR1.out hnp hPbH.out).mono ?_
  rintro e w2 ⟨A2, c2, rfl, hrd, hb2⟩
  have hrdH := Lib.hid hrd
  have hb2H := Lib.hid hb2
  have hkl := keepL_lenC ps bs bs.length
  clear hrd hb2 x0
  go_wp2_with fail
  refine (strengthOf_any A2 _ c2 (keepLC ps bs bs.length) _ hrdH.out (by omega) (fun k b hb => by obtain ⟨q, hq⟩ := keepL_getC hb; exact hsH.out q b hq)).mono ?_
  rintro e w3 ⟨rfl, hb3⟩
  go_wp2
  go_ret
  exact ⟨rfl, hB1.out.trans ((hb2H.out.mono (by omega)).trans (hb3.mono (by have := hb2H.out.size; omega)))⟩
noncomputable def cutR (gs : List Gl) (ts : List Ti) (xs : List Pl) (ps : List Int) : Int × Int :=
  if validAsmB gs ts xs = false then (0, 1) else if risesB 0 ((xs.length : Int) - 1) ps = false then (0, 2) else (sumB (keepLC ps (bondsL gs ts xs) (bondsL gs ts xs).length), 0)
set_option maxRecDepth 100000 in
set_option maxHeartbeats 1000000 in
theorem CutStrength_any (G T A P_ : Option Addr) (n cg m ct q ca np cp : Nat) (gs : List Gl) (ts : List Ti) (xs : List Pl) (ps : List Int) (w : World) (h : SA w G n T m A q gs ts xs) (hP : RdSl 1 RInt w P_ np ps) (hnp : np ≤ 1073741824) :
    Calls Tryz.prog 15 #[.agg #[.slice G n cg, .slice T m ct], .agg #[.slice A q ca], .slice P_ np cp] w (ChkRes w (cutR gs ts xs ps)) := by
  have hql := h.A.len
  have hq1 := h.q
  have hH := Lib.hid h
  have hPH := Lib.hid hP
  clear h hP
  cases hv : validAsmB gs ts xs
  · have hvH := Lib.hid hv
    have hrH := Lib.hid (show (0, 1) = cutR gs ts xs ps by unfold cutR; rw [if_pos hv])
    clear hv
    go_enter Tryz.func15, Tryz.ntmps15
    go_wp2_with fail
    refine ((hH.out.below (by exact bel_)).valid hvH.out).mono ?_
    rintro e w1 ⟨rfl, hb1⟩
    go_wp2
    go_ret2
    exact ChkRes.of hrH.out (by exact bel_)
  · have hvH := Lib.hid hv
    have hV := valid_of hv
    cases hrs : risesB 0 ((q : Int) - 1) ps
    · have hrsH := Lib.hid hrs
      have hrH := Lib.hid (show (0, 2) = cutR gs ts xs ps by unfold cutR; rw [if_neg (by rw [hv]; decide), hql, if_pos hrs])
      clear hv hrs
      go_enter Tryz.func15, Tryz.ntmps15
      go_wp2_with fail
      refine ((hH.out.below (by exact bel_)).valid hvH.out).mono ?_
      rintro e w1 ⟨rfl, hb1⟩
      obtain ⟨chb1, fhb1, shb1, thb1⟩ := bcell hb1
      have l1 := shb1 (w.heap.size + 1) (by go_simp)
      go_wp2_with fail
      refine (isPart_any _ _ _ _ _ _ ps _ (hPH.out.below RInt.stable (by exact bel_)) hnp hq1).mono ?_
      rw [hrsH.out]
      rintro e w2 ⟨rfl, hb2⟩
      go_wp2
      go_ret2
      exact ChkRes.of hrH.out (by exact bel_)
    · have hrsH := Lib.hid hrs
      have hrH := Lib.hid (show (sumB (keepLC ps (bondsL gs ts xs) (bondsL gs ts xs).length), 0) = cutR gs ts xs ps by unfold cutR; rw [if_neg (by rw [hv]; decide), hql, if_neg (by rw [hrs]; decide)])
      have hbl := bondsL_len hV
      clear hv hrs
      go_enter Tryz.func15, Tryz.ntmps15
      go_wp2_with fail
      refine ((hH.out.below (by exact bel_)).valid hvH.out).mono ?_
      rintro e w1 ⟨rfl, hb1⟩
      obtain ⟨chb1, fhb1, shb1, thb1⟩ := bcell hb1
      have l1 := shb1 (w.heap.size + 1) (by go_simp)
      have l0 := shb1 w.heap.size (by go_simp)
      go_wp2_with fail
      refine (isPart_any _ _ _ _ _ _ ps _ (hPH.out.below RInt.stable (by exact bel_)) hnp hq1).mono ?_
      rw [hrsH.out]
      rintro e w2 ⟨rfl, hb2⟩
      obtain ⟨chb2, fhb2, shb2, thb2⟩ := bcell hb2
      go_wp2_with fail
      refine ((hH.out.below (by exact bel_)).bonds hV).mono ?_
      rintro e w3 ⟨v3, rfl, hrow, hb3⟩
      have hrowH := Lib.hid hrow
      clear hrow
      go_wp2_with fail
      refine (cutStrength_any _ _ _ _ ps v3 _ _ hrowH.out (by omega) (bonds_s hV) (hPH.out.below RInt.stable (by exact bel_)) hnp).mono ?_
      rintro e w4 ⟨rfl, hb4⟩
      go_wp2
      go_ret2
      exact ChkRes.of hrH.out (by exact bel_)
end Go.Proofs.YtmhgjgclclnmaaaGreat
/- Plain: the bonds of an assembly are those of a part, those of the rest and the cut between them. -/



namespace Go.Proofs.YtmhgjgclclnmaaaGreat
open Go.RowKit
/-- the places of a class below k -/
def idxL (c : Nat → Bool) : Nat → List Int
  | 0 => []
  | k + 1 => idxL c k ++ (if c k then [(k : Int)] else [])
theorem idxL_yes {c : Nat → Bool} {k : Nat} (h : c k = true) : idxL c (k + 1) = idxL c k ++ [(k : Int)] := by simp only [idxL, h, if_true]
theorem idxL_no {c : Nat → Bool} {k : Nat} (h : c k = false) : idxL c (k + 1) = idxL c k := by
  simp only [idxL, h]
  exact List.append_nil _
theorem idxL_len (c : Nat → Bool) (k : Nat) : (idxL c k).length ≤ k := by
  induction k with
  | zero => exact Nat.le_refl _
  | succ k ih =>
    cases h : c k
    · rw [idxL_no h]; omega
    · rw [idxL_yes h, List.length_append]
      show _ + 1 ≤ _
      omega
theorem idxL_mem (c : Nat → Bool) (k : Nat) : ∀ v ∈ idxL c k, ∃ i : Nat, v = (i : Int) ∧ i < k ∧ c i = true := by
  induction k with
  | zero => intro v hv; simp [idxL] at hv
  | succ k ih =>
    intro v hv
    cases h : c k
    · rw [idxL_no h] at hv
      obtain ⟨i, h1, h2, h3⟩ := ih v hv
      exact ⟨i, h1, by omega, h3⟩
    · rw [idxL_yes h] at hv
      rcases List.mem_append.1 hv with hv | hv
      · obtain ⟨i, h1, h2, h3⟩ := ih v hv
        exact ⟨i, h1, by omega, h3⟩
      · simp at hv
        exact ⟨k, hv, by omega, h⟩
theorem idxL_has {c : Nat → Bool} {k i : Nat} (h : i < k) (hc : c i = true) : (i : Int) ∈ idxL c k := by
  induction k with
  | zero => omega
  | succ k ih =>
    by_cases e : i = k
    · subst e; rw [idxL_yes hc]; exact List.mem_append_right _ (List.mem_singleton.2 rfl)
    · have := ih (by omega)
      cases h2 : c k
      · rw [idxL_no h2]; exact this
      · rw [idxL_yes h2]; exact List.mem_append_left _ this
theorem idxL_srt (c : Nat → Bool) (k : Nat) : (idxL c k).Pairwise (· < ·) := by
  induction k with
  | zero => exact List.Pairwise.nil
  | succ k ih =>
    cases h : c k
    · rw [idxL_no h]; exact ih
    · rw [idxL_yes h, List.pairwise_append]
      refine ⟨ih, List.pairwise_singleton _ _, fun a ha b hb => ?_⟩
      obtain ⟨i, rfl, hi, _⟩ := idxL_mem c k a ha
      simp at hb
      subst hb
      omega
theorem hasB_idx {c : Nat → Bool} {k i : Nat} (h : i < k) : hasB (idxL c k) (i : Int) = c i := by
  unfold hasB
  cases hc : c i
  · rw [List.any_eq_false]
    intro v hv
    obtain ⟨j, rfl, _, hj⟩ := idxL_mem c k v hv
    intro e
    have e2 : (j : Int) = (i : Int) := by simpa using e
    have e3 : j = i := by omega
    rw [e3, hc] at hj
    cases hj
  · rw [List.any_eq_true]
    exact ⟨_, idxL_has h hc, by simp⟩
theorem rises_idx (c : Nat → Bool) (n : Nat) : risesB 0 ((n : Int) - 1) (idxL c n) = true := by
  unfold risesB
  refine allB_true fun j hj => ?_
  obtain ⟨e, he⟩ : ∃ e, (idxL c n)[j]? = some e := ⟨_, List.getElem?_eq_getElem hj⟩
  obtain ⟨i, rfl, hi, _⟩ := idxL_mem c n e (List.mem_of_getElem? he)
  have hin : inB (i : Int) 0 ((n : Int) - 1) = true := inB_true.2 (by omega)
  cases j with
  | zero => exact okRise_zero he hin
  | succ j =>
    obtain ⟨d, hd⟩ : ∃ d, (idxL c n)[j]? = some d := ⟨_, List.getElem?_eq_getElem (by omega)⟩
    rw [okRise_succ he hd hin, decide_eq_true_eq]
    have hs := idxL_srt c n
    obtain ⟨h1, rfl⟩ := List.getElem?_eq_some_iff.1 hd
    obtain ⟨h2, h3⟩ := List.getElem?_eq_some_iff.1 he
    rw [← h3]
    exact List.pairwise_iff_getElem.1 hs j (j + 1) h1 h2 (Nat.lt_succ_self j)
/-- the part of a class -/
def selL (c : Nat → Bool) (xs : List Pl) : List Pl := (idxL c xs.length).map (plK xs)
theorem asm_of_valid {gs : List Gl} {ts : List Ti} {xs : List Pl} (hV : Valid gs ts xs) (hv : validSetB gs ts = true) : validAsmB gs ts xs = true := by
  have htl := hV.tl
  unfold validAsmB
  rw [hv]
  have h1 : hasFormB xs = true := by
    refine hasFormB_ok hV.len fun j hj => ?_
    obtain ⟨e, he⟩ : ∃ e, xs[j]? = some e := ⟨_, List.getElem?_eq_getElem hj⟩
    have hp := hV.pt j e he
    obtain ⟨t, ht, htl2⟩ := hV.ti j e he
    have hpt : validPt e.x e.y = true := by unfold validPt; rw [inB_true.2 hp.1, inB_true.2 hp.2]; rfl
    have ht2 : inB e.t 0 159 = true := inB_true.2 (by omega)
    cases j with
    | zero => rw [okPl_eq0 he, hpt, ht2]; rfl
    | succ i =>
      obtain ⟨d, hd⟩ : ∃ d, xs[i]? = some d := ⟨_, List.getElem?_eq_getElem (by omega)⟩
      rw [okPl_eqS he hd, hpt, ht2, hV.sorted i (i + 1) d e (by omega) hd he]; rfl
  have h2 : allB xs.length (okTile ts.length xs) = true := allB_true fun j hj => by
    obtain ⟨e, he⟩ : ∃ e, xs[j]? = some e := ⟨_, List.getElem?_eq_getElem hj⟩
    obtain ⟨t, ht, htl2⟩ := hV.ti j e he
    unfold okTile
    rw [he]
    exact inB_true.2 (by omega)
  rw [h1, h2]; rfl
theorem sel_valid {gs : List Gl} {ts : List Ti} {xs : List Pl} (hV : Valid gs ts xs) (c : Nat → Bool) : Valid gs ts (selL c xs) := by
  have hget : ∀ (k : Nat) (e : Pl), (selL c xs)[k]? = some e → ∃ i : Nat, (idxL c xs.length)[k]? = some (i : Int) ∧ xs[i]? = some e := fun k e he => by
    unfold selL at he
    rw [List.getElem?_map] at he
    cases hk : (idxL c xs.length)[k]? with
    | none => rw [hk] at he; cases he
    | some v =>
      rw [hk] at he
      obtain ⟨i, rfl, hi, _⟩ := idxL_mem c _ v (List.mem_of_getElem? hk)
      refine ⟨i, rfl, ?_⟩
      have he2 := Option.some.inj he
      rw [plK_at (List.getElem?_eq_getElem hi)] at he2
      rw [List.getElem?_eq_getElem hi, he2]
  refine { len := ?_, gl := hV.gl, tl := hV.tl, pt := fun k e he => ?_, ti := fun k e he => ?_, sorted := fun i j d e hij hd he => ?_, four := hV.four, side := hV.side, str := hV.str }
  · have h1 := idxL_len c xs.length
    have h2 := hV.len
    unfold selL
    rw [List.length_map]
    omega
  · obtain ⟨i, _, hi⟩ := hget k e he
    exact hV.pt i e hi
  · obtain ⟨i, _, hi⟩ := hget k e he
    exact hV.ti i e hi
  · obtain ⟨a, ha, hd2⟩ := hget i d hd
    obtain ⟨b, hb, he2⟩ := hget j e he
    obtain ⟨h1, h3⟩ := List.getElem?_eq_some_iff.1 ha
    obtain ⟨h2, h4⟩ := List.getElem?_eq_some_iff.1 hb
    have hlt := List.pairwise_iff_getElem.1 (idxL_srt c xs.length) i j h1 h2 hij
    rw [h3, h4] at hlt
    exact hV.sorted a b d e (by omega) hd2 he2
end Go.Proofs.YtmhgjgclclnmaaaGreat
