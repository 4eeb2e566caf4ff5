import Derived.Test.YtmpmokefgdjnkaaGreatKR
import Derived.Lib.LazyBuf
import Derived.Lib.SliceRun
import Derived.Test.YtmpmokefgdjnkaaGreatS3
import Derived.Test.YtmpmokefgdjnkaaGreatF5
import Derived.Test.YtmpmokefgdjnkaaGreatOrdR
import Derived.Test.YtmpmokefgdjnkaaGreatKF
import Derived.Test.YtmpmokefgdjnkaaGreatKP
import Derived.Test.YtmpmokefgdjnkaaGreatKW
import Derived.Test.YtmpmokefgdjnkaaGreatKC
set_option linter.unusedSimpArgs false
set_option linter.unusedVariables false
/- Walks: a list of bonds copied; its weak bonds struck out. -/



namespace Go.Proofs.YtmpmokefgdjnkaaGreat
open Go.RowKit Go.Shelf
attribute [local go_sem] BelowBy.cell BelowBy.cell_drew stillUpon givesUpon BelowBy.cell_drew2 BelowBy.cell_drew3

theorem bdCells_one (bs : List Bd) : ∀ u ∈ bdCells bs, u.oneCell' = true := by
  induction bs with
  | nil => simp [bdCells]
  | cons b l ih =>
    intro u hu
    simp only [bdCells, List.mem_cons] at hu
    rcases hu with rfl | rfl | rfl | hu
    · rfl
    · rfl
    · rfl
    · exact ih u hu
def OwnRes (w : World) (bs : List Bd) (e : Ending) (w' : World) : Prop := ∃ v, e = .returned v ∧ w'.ownsRow w.heap.size 100 3 v bs.length (bdCells bs) ∧ Below w.heap.size w w'
set_option maxRecDepth 100000 in
set_option maxHeartbeats 1000000 in
theorem CloneB_any (base : Nat) (v : Value) (bs : List Bd) (w : World) (h : w.ownsRow base 100 3 v bs.length (bdCells bs)) (hn : bs.length ≤ 100000) :
    Calls Tryz.prog 143 #[v] w (OwnRes w bs) := by
  obtain ⟨i0, hi, hz0, hz1, hz2⟩ := info_parts infoBond
  rcases h.2 with ⟨rfl, h0⟩ | ⟨g, cap, cur, rfl, hb, hh, hnc, hm, hs, ht⟩
  · have hb : bs = [] := List.eq_nil_of_length_eq_zero h0
    subst hb
    have hq := fun W => Lib.run_eql_slice_nil (P := Tryz.prog) W 66 100 none 0 0 0 0 Tryz.underlying66
    clear h
    go_enter Tryz.func143, Tryz.ntmps143
    go_wp2
    go_ret
    exact ⟨_, rfl, World.ownsRow_nil _ _ _ _, bl_refl _⟩
  · have hq := fun W => Lib.run_eql_slice_nil (P := Tryz.prog) W 66 100 (some ⟨g, 0, none⟩) bs.length cap 0 0 Tryz.underlying66
    have hcell := h.cells (g := g) rfl
    have hcellH := Lib.hid hcell
    have hlt := (Array.getElem?_eq_some_iff.1 hh).1
    have hlen := h.1
    have hlenH := Lib.hid hlen
    clear h hcell hh hs ht hlen
    obtain ⟨L, hL⟩ : ∃ L, bs.length = L := ⟨_, rfl⟩
    rw [hL] at hn hnc hlenH hq
    rw [hL]
    have hLH := Lib.hid hL
    clear hL
    go_enter Tryz.func143, Tryz.ntmps143
    go_wp2_with (at_builtin; go_loud (refine wpList_append_own _ rfl _ _ 66 rfl w.heap.size 100 i0 (.agg #[.int .i64 0, .int .i64 0, .int .i64 0]) 3 24 Tryz.underlying66 hi hz0 hz1 hz2 rfl (by decide) _ 0 [] rfl (World.ownsRow_made _ _ _ (Nat.le_refl _) (by decide) rfl) ⟨g, 0, none⟩ L cap (bdCells bs) rfl hlenH.out (fun j u hj => (World.cell?_alloc_lt _ _ _ (by rw [Addr.add_lit]; exact hlt)).trans (hcellH.out j u hj)) (bdCells_one bs) (by unfold maxLen; omega) (by omega) (by simp) ?_); intro v' w3 hown' hgrow _)
    go_ret
    refine ⟨_, rfl, ?_, ((Below.refl w.heap.size w).alloc (Nat.le_refl _) _).grown hgrow (by simp) (fun b' hb' => ?_)⟩
    · rw [hLH.out]
      simpa using hown'
    · have hb2 : some w.heap.size = some b' := hb'
      injection hb2 with hb3
      exact Nat.le_of_eq hb3
/-- what is struck out -/
def weakB (t : Int) (b : Bd) : Bool := decide (b.s < t)
set_option maxHeartbeats 1000000 in
theorem contr1_any (p : Nat) (t : Int) (e : Bd) (w : World) (hp : w.cell? ⟨p, 0, none⟩ = some (.int .i64 t)) (hlt : p < w.heap.size) :
    Calls Tryz.prog 144 #[.agg #[.int .i64 (e.a : Int), .int .i64 (e.b : Int), .int .i64 e.s], .pointer (some ⟨p, 0, none⟩)] w fun e' w' => e' = .returned (.bool (weakB t e)) ∧ Below w.heap.size w w' := by
  have hpl := Nat.le_of_lt hlt
  go_enter Tryz.func144, Tryz.ntmps144
  go_wp2
  go_ret
  exact ⟨ret_bool rfl, by exact bel_⟩
def FirstK (w : World) (n : Nat) (del : Nat → Bool) (e : Ending) (w' : World) : Prop :=
  ((e = .returned (.int .i64 (-1)) ∧ ∀ j, j < n → del j = false) ∨ ∃ k : Nat, k < n ∧ e = .returned (.int .i64 (k : Int)) ∧ del k = true ∧ ∀ j, j < k → del j = false) ∧ Below w.heap.size w w'
def delAt (t : Int) (bs : List Bd) (j : Nat) : Bool := match bs[j]? with
  | none => false
  | some b => weakB t b
theorem delAt_eq {t : Int} {bs : List Bd} {j : Nat} {b : Bd} (h : bs[j]? = some b) : delAt t bs j = weakB t b := by unfold delAt; rw [h]
set_option maxHeartbeats 1000000 in
theorem IndexFuncB_any (p : Nat) (A : Option Addr) (n c : Nat) (t : Int) (bs : List Bd) (w : World) (hp : w.cell? ⟨p, 0, none⟩ = some (.int .i64 t)) (hlt : p < w.heap.size) (hB : RdSl 3 RBd w A n bs) (hn : n ≤ 100000) :
    Calls Tryz.prog 150 #[.slice A n c, .func (.func 144) #[] #[.pointer (some ⟨p, 0, none⟩)]] w (FirstK w n (delAt t bs)) := by
  go_enter Tryz.func150, Tryz.ntmps150
  go_wp2
  go_loopg [8] n (fun r x wr => ∃ k : Nat, k + r = n ∧ x = .int .i64 (k : Int) ∧ Hid (∀ j, j < k → delAt t bs j = false) ∧ Below w.heap.size w wr)
  case atStart => exact ⟨0, by omega, rfl, Lib.hid (fun j hj => by omega), bl_refl _⟩
  case round =>
    obtain ⟨k, hk, rfl, hno, hbw⟩ := hrel
    have g1 := (hbw.cell (p := ⟨p, 0, none⟩) hlt).trans hp
    have gp := Nat.lt_of_lt_of_le hlt hbw.size
    have hB' := hB.below RBd.stable hbw
    by_cases hkn : k < n
    · obtain ⟨b, o, rfl, hb, hc⟩ := hB'.ptr (by omega)
      obtain ⟨e, he⟩ := hB.get hkn
      obtain ⟨c0, c1, c2⟩ := hc k e he
      have hd := delAt_eq (t := t) he
      cases hv : weakB t e
      · have hdH := Lib.hid (hd.trans hv)
        have hvH := Lib.hid hv
        clear hc he hB hB' hd hv
        go_wp2_with fail
        refine (contr1_any p t e _ g1 gp).mono ?_
        rw [hvH.out]
        rintro e' w1 ⟨rfl, hb1⟩
        go_wp2
        go_roundg (n - (k + 1))
        case measure => omega
        case rel => exact ⟨k + 1, by omega, by go_num, Lib.hid (fun j hj => by
          rcases Nat.lt_succ_iff_lt_or_eq.1 hj with hj | rfl
          · exact hno.out j hj
          · exact hdH.out), bl_tr hbw hb1⟩
      · have hdH := Lib.hid (hd.trans hv)
        have hvH := Lib.hid hv
        clear hc he hB hB' hd hv
        go_wp2_with fail
        refine (contr1_any p t e _ g1 gp).mono ?_
        rw [hvH.out]
        rintro e' w1 ⟨rfl, hb1⟩
        go_wp2
        go_ret
        exact ⟨Or.inr ⟨k, hkn, rfl, hdH.out, hno.out⟩, bl_tr hbw hb1⟩
    · obtain rfl : k = n := by omega
      clear hB'
      go_wp2
      go_ret
      exact ⟨Or.inl ⟨rfl, hno.out⟩, hbw⟩
theorem run_clear_rows {P : Program} (w : World) (t e ty : TypeId) (z : Value) (ht : P.underlying t = some (.slice e)) (hv : ∀ w, (zeroValue e).run P w = .ok z w) (b o n c : Nat) (hn : 0 < n)
    (hc : ∀ j, j < n * z.cells.size → (w.cell? ⟨b, o + j, none⟩).isSome = true) (hf : ∀ j, j < n * z.cells.size → w.frozen? ⟨b, o + j, none⟩ = false) (h1 : ∀ u ∈ (Builtin.zeroCells z.cells n).toList, u.oneCell' = true) :
    (Builtin.clear_ #[t] ty #[.slice (some ⟨b, o, none⟩) n c]).run P w = .ok (.tuple #[]) (w.setCells b o (Builtin.zeroCells z.cells n).toList) := by
  have hlen : (Builtin.zeroCells z.cells n).toList.length = n * z.cells.size := by simp [size_zeroCells]
  have hst := run_storeCells_cells (P := P) b o (Builtin.zeroCells z.cells n).toList 0 w (by rw [hlen]; simpa using hc) (by rw [hlen]; simpa using hf) h1
  simp only [Nat.add_zero] at hst
  obtain ⟨m, rfl⟩ : ∃ m, n = m + 1 := ⟨n - 1, by omega⟩
  simp [Builtin.clear_, run_underlying ht, hv, hst]
theorem zero3 (n : Nat) : ∀ u ∈ (Builtin.zeroCells #[Value.int .i64 0, .int .i64 0, .int .i64 0] n).toList, u.oneCell' = true := by
  intro u hu
  simp only [Builtin.zeroCells, Array.toList_map, List.mem_map] at hu
  obtain ⟨i, _, rfl⟩ := hu
  have : i % 3 = 0 ∨ i % 3 = 1 ∨ i % 3 = 2 := by omega
  rcases this with h | h | h <;> simp [h] <;> rfl
def keepL (t : Int) (bs : List Bd) (k : Nat) : List Bd := (bs.take k).filter fun b => !weakB t b
theorem keepL_succ_yes {t : Int} {bs : List Bd} {k : Nat} {e : Bd} (he : bs[k]? = some e) (h : weakB t e = false) : keepL t bs (k + 1) = keepL t bs k ++ [e] := by
  obtain ⟨hk, rfl⟩ := List.getElem?_eq_some_iff.1 he
  unfold keepL; rw [List.take_succ_eq_append_getElem hk, List.filter_append]; simp [h]
theorem keepL_succ_no {t : Int} {bs : List Bd} {k : Nat} {e : Bd} (he : bs[k]? = some e) (h : weakB t e = true) : keepL t bs (k + 1) = keepL t bs k := by
  obtain ⟨hk, rfl⟩ := List.getElem?_eq_some_iff.1 he
  unfold keepL; rw [List.take_succ_eq_append_getElem hk, List.filter_append]; simp [h]
theorem keepL_len (t : Int) (bs : List Bd) (k : Nat) : (keepL t bs k).length ≤ k := Nat.le_trans (List.length_filter_le _ _) (List.length_take_le _ _)
theorem keepL_all {t : Int} {bs : List Bd} {k : Nat} (h : ∀ j, j < k → delAt t bs j = false) : keepL t bs k = bs.take k := by
  unfold keepL
  rw [List.filter_eq_self]
  intro b hb
  obtain ⟨j, hj, rfl⟩ := List.mem_iff_getElem.1 hb
  have hj' : j < k ∧ j < bs.length := by simp at hj; omega
  have := h j hj'.1
  rw [delAt_eq (List.getElem?_eq_getElem hj'.2)] at this
  simpa using this
/-- what is left of a row of bonds -/
def DelRes (base : Nat) (w : World) (l : List Bd) (e : Ending) (w' : World) : Prop := ∃ A c, e = .returned (.slice A l.length c) ∧ RdSl 3 RBd w' A l.length l ∧ Below base w w'
theorem DelRes.of {base n : Nat} {w w' : World} {l : List Bd} {A : Option Addr} {c : Nat} (hn : n = l.length) (h : RdSl 3 RBd w' A l.length l) (hb : Below base w w') : DelRes base w l (.returned (.slice A n c)) w' := by
  subst hn; exact ⟨A, c, rfl, h, hb⟩
set_option maxRecDepth 100000 in
set_option maxHeartbeats 4000000 in
theorem DeleteFuncB_any (base p : Nat) (t : Int) (v : Value) (bs : List Bd) (w : World) (hrow : w.ownsRow base 100 3 v bs.length (bdCells bs)) (hn : bs.length ≤ 100000)
    (hp : w.cell? ⟨p, 0, none⟩ = some (.int .i64 t)) (hpb : p < base) (hbz : base ≤ w.heap.size) :
    Calls Tryz.prog 142 #[v, .func (.func 144) #[] #[.pointer (some ⟨p, 0, none⟩)]] w (DelRes base w (keepL t bs bs.length)) := by
  obtain ⟨A, cap, rfl, rdb⟩ := rd_of_row hrow
  obtain ⟨n, hnn⟩ : ∃ n, bs.length = n := ⟨_, rfl⟩
  rw [hnn] at hn rdb hrow
  rw [hnn]
  have hnnH := Lib.hid hnn
  have hpl : p < w.heap.size := by omega
  have hpO := Lib.hid hp
  clear hnn
  go_enter Tryz.func142, Tryz.ntmps142
  go_wp2_with fail
  refine (IndexFuncB_any p A n cap t bs _ hp hpl rdb hn).mono ?_
  rintro e w1 ⟨(⟨rfl, hall⟩ | ⟨k, hkn, rfl, hdk, hall⟩), hb1⟩
  · have hallH := Lib.hid hall
    have rdH := Lib.hid (rdb.below RBd.stable hb1)
    have hK := keepL_all (t := t) (bs := bs) (k := n) hall
    rw [List.take_of_length_le (by rw [hnnH.out]; exact Nat.le_refl _)] at hK
    have hKH := Lib.hid hK
    clear hall rdb hrow hK
    go_wp2
    go_ret
    rw [hKH.out]
    exact DelRes.of hnnH.out.symm (by rw [hnnH.out]; exact rdH.out) (hb1.mono hbz)
  · have hk1 : ¬ ((k : Int) = -1) := by omega
    have hk1' : ((k : Int) == -1) = false := by simp
    rcases hrow.2 with ⟨h0, h0'⟩ | ⟨g, cap', cur, hv, hb, hh, hnc, hm, hs, ht⟩
    · omega
    obtain ⟨rfl, -, rfl⟩ : A = some ⟨g, 0, none⟩ ∧ n = n ∧ cap = cap' := by injection hv with a1 a2 a3; exact ⟨a1, a2, a3⟩
    have hgl : g < w.heap.size := (Array.getElem?_eq_some_iff.1 hh).1
    have hh1 := (hb1.block g hgl).trans hh
    have hrow1 : w1.rowIs g 100 (cap * 3) (fun i => cur.getD i undef) := by
      refine ⟨cur, hh1, hs, fun i hi => ?_⟩
      have : i < cur.size := by omega
      simp [this]
    have hget : ∀ q b, bs[q]? = some b → q < n → cur.getD (q * 3) undef = .int .i64 (b.a : Int) ∧ cur.getD (q * 3 + 1) undef = .int .i64 (b.b : Int) ∧ cur.getD (q * 3 + 2) undef = .int .i64 b.s := by
      intro q b hq hqn
      obtain ⟨x0, x1, x2⟩ := bdCells_get bs q b hq
      rw [← ht, List.getElem?_take_of_lt (by omega)] at x0 x1 x2
      simp only [Array.getElem?_toList] at x0 x1 x2
      simp [Array.getD_eq_getD_getElem?, x0, x1, x2]
    have hkeep0 := keepL_all (t := t) (bs := bs) (k := k) hall
    obtain ⟨ek, hek⟩ : ∃ e, bs[k]? = some e := ⟨_, List.getElem?_eq_getElem (by rw [hnnH.out]; exact hkn)⟩
    have hkeep1 := keepL_succ_no (t := t) hek (by rw [← delAt_eq (t := t) hek]; exact hdk)
    have hkl : k = (keepL t bs (k + 1)).length := by rw [hkeep1, hkeep0]; simp; rw [hnnH.out]; omega
    obtain ⟨F0, hF0⟩ : ∃ F : Nat → Bd, ∀ q b, bs[q]? = some b → F q = b := ⟨fun q => match bs[q]? with | some b => b | none => ⟨0, 0, 0⟩, fun q b h => by simp only [h]⟩
    have hst : Hid (k = (keepL t bs (k + 1)).length ∧ (∀ q b, (keepL t bs (k + 1))[q]? = some b → F0 q = b) ∧ (∀ q b, k + 1 ≤ q → bs[q]? = some b → F0 q = b)) := by
      refine Lib.hid ⟨hkl, fun q b hq => ?_, fun q b _ hq => hF0 q b hq⟩
      rw [hkeep1, hkeep0, List.getElem?_take] at hq
      split at hq
      · exact hF0 q b hq
      · cases hq
    have hf0 : Hid (∀ q, q < n → (fun i => cur.getD i undef) (q * 3) = .int .i64 ((F0 q).a : Int) ∧ (fun i => cur.getD i undef) (q * 3 + 1) = .int .i64 ((F0 q).b : Int) ∧ (fun i => cur.getD i undef) (q * 3 + 2) = .int .i64 (F0 q).s) := Lib.hid fun q hq => by
      obtain ⟨b, hqb⟩ : ∃ b, bs[q]? = some b := ⟨_, List.getElem?_eq_getElem (by rw [hnnH.out]; exact hq)⟩
      rw [hF0 q b hqb]
      exact hget q b hqb hq
    have hB1 := Lib.hid (hb1.mono hbz)
    have hbg := hb
    clear hkl hF0 hget hkeep0 hkeep1 hek hall rdb hrow hh hh1 hs ht hv hb1 hp hdk
    go_wp2
    go_loopg [5, 6] (n - (k + 1)) (fun r x y wr => ∃ (i j : Nat) (F : Nat → Bd) (f : Nat → Value), j + r = n ∧ i < j ∧ x = .int .i64 (i : Int) ∧ y = .int .i64 (j : Int) ∧ Hid (i = (keepL t bs j).length ∧ (∀ q b, (keepL t bs j)[q]? = some b → F q = b) ∧ (∀ q b, j ≤ q → bs[q]? = some b → F q = b)) ∧ wr.rowIs g 100 (cap * 3) f ∧ Hid (∀ q, q < n → f (q * 3) = .int .i64 ((F q).a : Int) ∧ f (q * 3 + 1) = .int .i64 ((F q).b : Int) ∧ f (q * 3 + 2) = .int .i64 (F q).s) ∧ Below base w wr)
    case atStart => exact ⟨k, k + 1, F0, _, by omega, by omega, rfl, by go_num, hst, hrow1, hf0, hB1.out⟩
    case round =>
      obtain ⟨i, j, F, f, hj, hij, rfl, rfl, hst', hrw, hf, hbw⟩ := hrel
      clear hst hf0 hrow1
      have hgw : g < wr.heap.size := hrw.lt
      have g1 := (hbw.cell (p := ⟨p, 0, none⟩) hpb).trans hpO.out
      have gp := Nat.lt_of_lt_of_le hpl hbw.size
      by_cases hlt : j < n
      · obtain ⟨e, he⟩ : ∃ e, bs[j]? = some e := ⟨_, List.getElem?_eq_getElem (by rw [hnnH.out]; exact hlt)⟩
        have hFj := hst'.out.2.2 j e (Nat.le_refl _) he
        obtain ⟨v0, v1, v2⟩ := hf.out j hlt
        rw [hFj] at v0 v1 v2
        have c0 := hrw.cell (i := j * 3) (by omega)
        have c1 := hrw.cell (i := j * 3 + 1) (by omega)
        have c2 := hrw.cell (i := j * 3 + 2) (by omega)
        rw [v0] at c0
        rw [v1] at c1
        rw [v2] at c2
        have heH := Lib.hid he
        have hrwH := Lib.hid hrw
        clear v0 v1 v2 hFj he hrw
        cases hcd : weakB t e
        · have hnx := Lib.hid (keepL_succ_yes heH.out hcd)
          have hcdH := Lib.hid hcd
          clear hcd
          go_wp2_with fail
          refine (contr1_any p t e _ (by go_simp) (by simp; omega)).mono ?_
          rw [hcdH.out]
          rintro e' w2 ⟨rfl, hb2⟩
          have hrw2 := hrwH.out.of_block ((hb2.block g (by simp; omega)).trans (Below.heap_alloc _ _ _ hgw))
          have d0 := hrw2.cell (i := i * 3) (by omega)
          have d1 := hrw2.cell (i := i * 3 + 1) (by omega)
          have d2 := hrw2.cell (i := i * 3 + 2) (by omega)
          have k0 := hrw2.frozen (i * 3)
          have k1 := hrw2.frozen (i * 3 + 1)
          have k2 := hrw2.frozen (i * 3 + 2)
          have x0 : w2.cell? ⟨wr.heap.size, 0, none⟩ = some (.int .i64 (e.a : Int)) := (hb2.cell (p := ⟨wr.heap.size, 0, none⟩) (by simp)).trans (by go_simp)
          have x1 : w2.cell? ⟨wr.heap.size, 1, none⟩ = some (.int .i64 (e.b : Int)) := (hb2.cell (p := ⟨wr.heap.size, 1, none⟩) (by simp)).trans (by go_simp)
          have x2 : w2.cell? ⟨wr.heap.size, 2, none⟩ = some (.int .i64 e.s) := (hb2.cell (p := ⟨wr.heap.size, 2, none⟩) (by simp)).trans (by go_simp)
          have hB2 : Below base w w2 := hbw.trans (Below.mono (bl_tr (bl_al (bl_refl _) _) hb2) (Nat.le_trans hbz hbw.size))
          have hB2H := Lib.hid hB2
          have hrw2H := Lib.hid hrw2
          have hin : i < n := by omega
          clear c0 c1 c2 hb2 hB2 hrw2 g1
          go_wp2
          go_roundg (n - (j + 1))
          case measure => omega
          case rel => exact ⟨i + 1, j + 1, fun q => if q = i then e else F q, _, by omega, by omega, by go_num, by go_num, Lib.hid ⟨by
              rw [hnx.out, List.length_append, ← hst'.out.1]; rfl, fun q b hq => by
              rw [hnx.out] at hq
              have hil := hst'.out.1
              rcases Nat.lt_or_ge q i with hqi | hqi
              · rw [List.getElem?_append_left (by omega)] at hq
                show (if q = i then e else F q) = b
                rw [if_neg (by omega)]; exact hst'.out.2.1 q b hq
              · rw [List.getElem?_append_right (by omega)] at hq
                have : q - (keepL t bs j).length = 0 := by
                  rcases Nat.eq_zero_or_pos (q - (keepL t bs j).length) with h0 | h0
                  · exact h0
                  · rw [List.getElem?_eq_none (by simp; omega)] at hq; cases hq
                rw [this] at hq
                show (if q = i then e else F q) = b
                rw [if_pos (by omega)]; simpa using hq, fun q b hq hb => by
              show (if q = i then e else F q) = b
              rw [if_neg (by omega)]; exact hst'.out.2.2 q b (by omega) hb⟩, ((hrw2H.out.set (i * 3) _).set (i * 3 + 1) _).set (i * 3 + 2) _, Lib.hid (fun q hq => by
              obtain ⟨u0, u1, u2⟩ := hf.out q hq
              by_cases hqi : q = i
              · subst hqi
                simp
              · rw [if_neg (by omega), if_neg (by omega), if_neg (by omega), if_neg (by omega), if_neg (by omega), if_neg (by omega), if_neg (by omega), if_neg (by omega), if_neg (by omega)]
                show f (q * 3) = Value.int .i64 ((if q = i then e else F q).a : Int) ∧ f (q * 3 + 1) = Value.int .i64 ((if q = i then e else F q).b : Int) ∧ f (q * 3 + 2) = Value.int .i64 (if q = i then e else F q).s
                rw [if_neg hqi]
                exact ⟨u0, u1, u2⟩), ((hB2H.out.setCell (p := ⟨g, i * 3, none⟩) hbg _).setCell (p := ⟨g, i * 3 + 1, none⟩) hbg _).setCell (p := ⟨g, i * 3 + 2, none⟩) hbg _⟩
        · have hnx := Lib.hid (keepL_succ_no heH.out hcd)
          have hcdH := Lib.hid hcd
          clear hcd
          go_wp2_with fail
          refine (contr1_any p t e _ (by go_simp) (by simp; omega)).mono ?_
          rw [hcdH.out]
          rintro e' w2 ⟨rfl, hb2⟩
          have hrw2 := hrwH.out.of_block ((hb2.block g (by simp; omega)).trans (Below.heap_alloc _ _ _ hgw))
          have hB2 : Below base w w2 := hbw.trans (Below.mono (bl_tr (bl_al (bl_refl _) _) hb2) (Nat.le_trans hbz hbw.size))
          have hB2H := Lib.hid hB2
          have hrw2H := Lib.hid hrw2
          clear c0 c1 c2 hb2 hB2 hrw2 g1
          go_wp2
          go_roundg (n - (j + 1))
          case measure => omega
          case rel => exact ⟨i, j + 1, F, _, by omega, by omega, rfl, by go_num, Lib.hid ⟨by rw [hnx.out]; exact hst'.out.1, fun q b hq => by rw [hnx.out] at hq; exact hst'.out.2.1 q b hq, fun q b hq hb => hst'.out.2.2 q b (by omega) hb⟩, hrw2H.out, hf, hB2H.out⟩
      · obtain rfl : j = n := by omega
        have hcl := fun (ty : TypeId) => run_clear_rows (P := Tryz.prog) wr 66 100 ty _ Tryz.underlying66 Tryz.zeroValue100 g (i * 3) (j - i) (cap - i) (by omega) (fun q hq => by rw [hrw.cell (i := i * 3 + q) (by simp [Value.cells] at hq; omega)]; rfl) (fun q hq => hrw.frozen _) (zero3 _)
        have hci : ¬ cap = i := by omega
        go_wp2
        go_ret
        obtain ⟨zs, hzs⟩ : ∃ zs, (Builtin.zeroCells #[Value.int .i64 0, Value.int .i64 0, Value.int .i64 0] (j - i)).toList = zs := ⟨_, rfl⟩
        rw [hzs]
        have hrw3 := Go.rowIs_setCells zs (i * 3) wr f hrw
        have hil := hst'.out.1
        have hfin := hst'.out.2.1
        have hrd : RdSl 3 RBd (wr.setCells g (i * 3) zs) (some ⟨g, 0, none⟩) (keepL t bs j).length (keepL t bs j) := by
          refine ⟨rfl, fun _ => ⟨g, 0, rfl, hrw3.lt, fun q hq => ?_⟩⟩
          have hFq := hfin q _ (List.getElem?_eq_getElem hq)
          obtain ⟨u0, u1, u2⟩ := hf.out q (by omega)
          rw [hFq] at u0 u1 u2
          refine ⟨?_, ?_, ?_⟩
          · rw [Nat.zero_add, hrw3.cell (i := q * 3) (by omega), if_neg (by omega), u0]
          · rw [Nat.zero_add, hrw3.cell (i := q * 3 + 1) (by omega), if_neg (by omega), u1]
          · rw [Nat.zero_add, hrw3.cell (i := q * 3 + 2) (by omega), if_neg (by omega), u2]
        exact DelRes.of hil hrd (Go.below_setCells hbg zs (i * 3) wr hbw)
end Go.Proofs.YtmpmokefgdjnkaaGreat
/- Walks: the reference's net of some bonds is made. -/



namespace Go.Proofs.YtmpmokefgdjnkaaGreat
open Go.RowKit Go.Shelf
attribute [local go_sem] ByR.cell ByR.cell_drew BelowBy.cell BelowBy.cell_drew stillUpon givesUpon BelowBy.cell_drew2 BelowBy.cell_drew3

/-- the net while it is made: any rows -/
structure SNetG (w0 w : World) (p n gF : Nat) (B : Option Addr) (m c : Nat) (rows : List (List Value)) (f : Nat → Int) (vA : Value) (uA : List Value) : Prop where
  lt : p < w.heap.size
  ge : w0.heap.size ≤ p
  c0 : w.cell? ⟨p, 0, none⟩ = some (.int .i64 (n : Int))
  c1 : w.cell? ⟨p, 1, none⟩ = some (.slice B m c)
  c2 : w.cell? ⟨p, 2, none⟩ = some vA
  c3 : w.cell? ⟨p, 3, none⟩ = some (.slice (some ⟨gF, 0, none⟩) m m)
  bw : Below w0.heap.size w0 w
  A : Own2 w w0.heap.size 58 2 1 vA uA rows
  fl : w.rowIs gF 2 m (fun i => .int .i64 (f i))
  gl : w0.heap.size ≤ gF
  off : ¬ InMat vA uA gF ∧ ¬ InMat vA uA p ∧ gF ≠ p
  len : uA.length = n
theorem inMat_set {v : Value} {us : List Value} {u b : Nat} {x v' : Value} (hx : us[u]? = some x) {c : Nat} (hat : v'.ownBlock = x.ownBlock ∨ v'.ownBlock = some c) (h : InMat v (us.set u v') b) : InMat v us b ∨ b = c := by
  rcases h with h | ⟨k, y, hy, h⟩
  · exact .inl (.inl h)
  · by_cases e : k = u
    · subst e
      rw [List.getElem?_set_self (List.getElem?_eq_some_iff.1 hx).1] at hy
      obtain rfl := Option.some.inj hy
      rcases hat with hat | hat
      · exact .inl (.inr ⟨k, x, hx, hat ▸ h⟩)
      · rw [hat] at h
        injection h with h
        exact .inr h.symm
    · rw [List.getElem?_set_ne (fun e' => e e'.symm)] at hy
      exact .inl (.inr ⟨k, y, hy, h⟩)
section
variable {w0 w w' w1 w2 : World} {p n gF : Nat} {B : Option Addr} {m c k : Nat} {rows : List (List Value)} {bs : List Bd} {f : Nat → Int} {vA : Value} {uA : List Value}
theorem SNetG.below (h : SNetG w0 w p n gF B m c rows f vA uA) (hb : Below w.heap.size w w') : SNetG w0 w' p n gF B m c rows f vA uA :=
  ⟨Nat.lt_of_lt_of_le h.lt hb.size, h.ge, (hb.cell (p := ⟨p, 0, none⟩) h.lt).trans h.c0, (hb.cell (p := ⟨p, 1, none⟩) h.lt).trans h.c1, (hb.cell (p := ⟨p, 2, none⟩) h.lt).trans h.c2, (hb.cell (p := ⟨p, 3, none⟩) h.lt).trans h.c3,
    h.bw.trans (hb.mono h.bw.size), h.A.below hb, h.fl.of_block (hb.block gF h.fl.lt), h.gl, h.off, h.len⟩
theorem SNetG.grow {u g cap n' : Nat} {x v' : Value} {r' : List Value} (h : SNetG w0 w p n gF B m c rows f (.slice (some ⟨g, 0, none⟩) n cap) uA) (hb1 : Below w.heap.size w w1) (hx : uA[u]? = some x)
    (hown : w2.ownsRow w0.heap.size 2 1 v' n' r') (hg : w1.grownBy w2 x.ownBlock) (hat : v'.ownBlock = x.ownBlock ∨ v'.ownBlock = some w1.heap.size) :
    SNetG w0 (w2.setCell ⟨g, u, none⟩ v') p n gF B m c (rows.set u r') f (.slice (some ⟨g, 0, none⟩) n cap) (uA.set u v') := by
  have h1 := h.below hb1
  have hgl := h1.A.lt g rfl
  have hxp : some p ≠ x.ownBlock := fun e => h.off.2.1 (.inr ⟨u, x, hx, e.symm⟩)
  have hxF : some gF ≠ x.ownBlock := fun e => h.off.1 (.inr ⟨u, x, hx, e.symm⟩)
  have hgp : g ≠ p := fun e => h.off.2.1 (.inl (by rw [e]; rfl))
  have hgF : g ≠ gF := fun e => h.off.1 (.inl (by rw [e]; rfl))
  have hb : (w2.setCell ⟨g, u, none⟩ v').heap[p]? = w1.heap[p]? := (Below.heap_setCell _ _ _ _ hgp.symm).trans (hg.block p h1.lt hxp)
  have hbF : (w2.setCell ⟨g, u, none⟩ v').heap[gF]? = w1.heap[gF]? := (Below.heap_setCell _ _ _ _ hgF.symm).trans (hg.block gF h1.fl.lt hxF)
  have hs := hg.size
  have hl := h1.lt
  have hF := h1.fl.lt
  refine ⟨by simp; omega, h.ge, (World.cell?_of_block (w := w1) (a := ⟨p, 0, none⟩) hb).trans h1.c0, (World.cell?_of_block (w := w1) (a := ⟨p, 1, none⟩) hb).trans h1.c1, (World.cell?_of_block (w := w1) (a := ⟨p, 2, none⟩) hb).trans h1.c2, (World.cell?_of_block (w := w1) (a := ⟨p, 3, none⟩) hb).trans h1.c3,
    (h1.bw.grown hg h1.bw.size (fun b e => (h1.A.ltIn hx b e).1)).setCell (p := ⟨g, u, none⟩) hgl.1 _, h1.A.grow h.len hx hown hg hat, h1.fl.of_block hbF, h.gl, ⟨fun hi => ?_, fun hi => ?_, h.off.2.2⟩, by rw [List.length_set]; exact h.len⟩
  · rcases inMat_set hx hat hi with h2 | h2
    · exact h.off.1 h2
    · omega
  · rcases inMat_set hx hat hi with h2 | h2
    · exact h.off.2.1 h2
    · omega
theorem SNetG.net (h : SNetG w0 w p n gF B m c (incRows bs k n) f vA uA) : SNet w0 w p n gF B m c k bs f vA uA := ⟨h.lt, h.ge, h.c0, h.c1, h.c2, h.c3, h.bw, h.A, h.fl, h.gl, h.off⟩
end
/-- n rows that hold nothing yet -/
theorem own2_zero {w : World} {base g n cap : Nat} {T E : TypeId} (h : w.ownsRow base T 1 (.slice (some ⟨g, 0, none⟩) n cap) n (List.replicate n (.slice none 0 0))) : Own2 w base T E 1 (.slice (some ⟨g, 0, none⟩) n cap) (List.replicate n (.slice none 0 0)) (List.replicate n []) := by
  have hg : ∀ {k : Nat} {u : Value}, (List.replicate n (Value.slice none 0 0))[k]? = some u → u = .slice none 0 0 := fun {k u} hu => by
    rw [List.getElem?_replicate] at hu
    split at hu
    · exact (Option.some.inj hu).symm
    · cases hu
  refine ⟨by simpa using h, by simp, fun k u r hu hr => ⟨0, ?_⟩, fun j k u u' b hu hu' hb _ => ?_, fun k u b hu hb => ?_⟩
  · rw [hg hu]
    rw [List.getElem?_replicate] at hr
    split at hr
    · rw [← Option.some.inj hr]; exact World.ownsRow_nil _ _ _ _
    · cases hr
  · rw [hg hu] at hb; cases hb
  · rw [hg hu] at hb; cases hb
theorem made_nils (n : Nat) : (madeCells #[Value.slice none 0 0] n).toList = List.replicate n (Value.slice none 0 0) := by
  apply List.ext_getElem?
  intro j
  by_cases hj : j < n
  · rw [Array.getElem?_toList, List.getElem?_replicate, if_pos hj]
    simp [madeCells, hj, Nat.mod_one]
  · rw [List.getElem?_eq_none (by rw [Array.length_toList, size_madeCells]; omega), List.getElem?_eq_none (by simp; omega)]
theorem incRows_zero (bs : List Bd) (n : Nat) : incRows bs 0 n = List.replicate n [] := by
  apply List.ext_getElem?
  intro j
  by_cases hj : j < n
  · rw [incRows_get hj, List.getElem?_replicate, if_pos hj]; simp [incL, intsI]
  · rw [List.getElem?_eq_none (by rw [incRows_len]; omega), List.getElem?_eq_none (by simp; omega)]
theorem incL_succ (bs : List Bd) (k u : Nat) : incL bs (k + 1) u = if incB bs u k = true then incL bs k u ++ [k] else incL bs k u := by
  unfold incL
  rw [List.range_succ, List.filter_append]
  by_cases h : incB bs u k = true
  · rw [if_pos h]; simp [h]
  · rw [if_neg h]
    have : incB bs u k = false := by simpa using h
    simp [this]
theorem incRows_succ {bs : List Bd} {k n : Nat} {e : Bd} (he : bs[k]? = some e) (ha : e.a < n) (hb : e.b < n) : incRows bs (k + 1) n = ((incRows bs k n).set e.a ((intsI (incL bs k e.a ++ [k])).map (Value.int .i64))).set e.b ((intsI (incL bs k e.b ++ [k])).map (Value.int .i64)) := by
  apply List.ext_getElem?
  intro j
  have hinc : ∀ u, incB bs u k = decide (e.a = u ∨ e.b = u) := fun u => by unfold incB; rw [he]
  by_cases hj : j < n
  · rw [incRows_get hj, incL_succ, hinc]
    by_cases h2 : e.b = j
    · subst h2
      rw [List.getElem?_set_self (by rw [List.length_set, incRows_len]; exact hj)]
      simp
    · rw [List.getElem?_set_ne h2]
      by_cases h1 : e.a = j
      · subst h1
        rw [List.getElem?_set_self (by rw [incRows_len]; exact hj)]
        simp
      · rw [List.getElem?_set_ne h1, incRows_get hj]
        simp [h1, h2]
  · rw [List.getElem?_eq_none (by rw [incRows_len]; omega), List.getElem?_eq_none (by simp [incRows_len]; omega)]
def NewRes (w : World) (n : Nat) (B : Option Addr) (m c : Nat) (bs : List Bd) (e : Ending) (w' : World) : Prop := ∃ p gF vA uA, e = .returned (.pointer (some ⟨p, 0, none⟩)) ∧ SNet w w' p n gF B m c bs.length bs (fun _ => 0) vA uA
set_option maxRecDepth 100000 in
set_option maxHeartbeats 4000000 in
theorem l07New_any (n : Nat) (B : Option Addr) (m c : Nat) (bs : List Bd) (w : World) (hB : RdSl 3 RBd w B m bs) (hb : BondsOk n bs) (hn0 : 0 < n) (hn : n ≤ 100000) (hm : m ≤ 100000) :
    Calls Tryz.prog 138 #[.int .i64 (n : Int), .slice B m c] w (NewRes w n B m c bs) := by
  obtain ⟨i0, hi, hz0, hz1, hz2⟩ := info_parts infoIs
  obtain ⟨i1, hi', hz0', hz1', hz2'⟩ := info_parts infoI
  have hmk := fun W => run_makeN (P := Tryz.prog) 58 2 _ 1 8 Tryz.underlying58 infoI m (by omega) (by omega) W
  have hmk2 := fun W => run_makeN (P := Tryz.prog) 186 58 _ 1 24 Tryz.underlying186 infoIs n (by omega) (by omega) W
  have hBH := Lib.hid hB
  have hbH := Lib.hid hb
  have hml := Lib.hid hB.len
  clear hB hb
  go_enter Tryz.func138, Tryz.ntmps138
  go_wp2
  go_loopg [6] m (fun gk i wr => ∃ (k : Nat) (cap : Nat) (uA : List Value), k + gk = m ∧ i = .int .i64 (k : Int) ∧ Hid (SNetG w wr w.heap.size n (w.heap.size + 2) B m c (incRows bs k n) (fun _ => 0) (.slice (some ⟨w.heap.size + 1, 0, none⟩) n cap) uA))
  case atStart =>
    refine ⟨0, n, List.replicate n (.slice none 0 0), by omega, rfl, Lib.hid ⟨by simp; omega, Nat.le_refl _, by go_simp, by go_simp, by go_simp, by go_simp, bl_al (bl_al (bl_al (bl_refl _) _) _) _, ?_, ?_, by omega, ⟨fun h => ?_, fun h => ?_, by omega⟩, by simp⟩⟩
    · rw [incRows_zero]
      refine own2_zero ?_
      have h := (World.ownsRow_lit (base := w.heap.size) (e := 58) (size := 1) (w.alloc (Obj.cells #[.int .i64 (n : Int), .slice B m c, .slice (some ⟨w.heap.size + 1, 0, none⟩) n n, .slice (some ⟨w.heap.size + 1 + 1, 0, none⟩) m m] 200)) (madeCells #[Value.slice none 0 0] n) n (by simp) (by unfold maxLen; omega) (by rw [size_madeCells, Nat.mul_one])).alloc (Obj.cells (madeCells #[Value.int .i64 0] m) 2)
      rw [made_nils] at h
      simpa using h
    · have h := World.rowIs_made ((w.alloc (Obj.cells #[.int .i64 (n : Int), .slice B m c, .slice (some ⟨w.heap.size + 1, 0, none⟩) n n, .slice (some ⟨w.heap.size + 1 + 1, 0, none⟩) m m] 200)).alloc (Obj.cells (madeCells #[Value.slice none 0 0] n) 58)) (.int .i64 0) m 2
      simpa using h
    · rcases h with h | ⟨k, u, hu, h⟩
      · have h2 : some (w.heap.size + 1) = some (w.heap.size + 2) := h
        injection h2 with h2; omega
      · rw [(List.mem_replicate.1 (List.mem_of_getElem? hu)).2] at h; cases h
    · rcases h with h | ⟨k, u, hu, h⟩
      · have h2 : some (w.heap.size + 1) = some w.heap.size := h
        injection h2 with h2; omega
      · rw [(List.mem_replicate.1 (List.mem_of_getElem? hu)).2] at h; cases h
  case round =>
    clear hmk hmk2
    obtain ⟨k, cap, uA, hk, rfl, hS⟩ := hrel
    by_cases hkm : k < m
    · obtain ⟨bb, ob, rfl, hbb, hbc⟩ := hBH.out.ptr (by omega)
      obtain ⟨e, he⟩ := hBH.out.get hkm
      obtain ⟨e0, e1, e2⟩ := hbc k e he
      have hea := hbH.out.a k e he
      have heb := hbH.out.b k e he
      have hne := hbH.out.ne k e he
      have hsucc := Lib.hid (incRows_succ (bs := bs) he hea heb)
      have hneH := Lib.hid hne
      clear hbc he hne
      have lpa := hS.out.lt
      have c1a := hS.out.c1
      have c2a := hS.out.c2
      have hsza := hS.out.bw.size
      have e0a := (hS.out.bw.cell (p := ⟨bb, _, none⟩) hbb).trans e0
      have e1a := (hS.out.bw.cell (p := ⟨bb, _, none⟩) hbb).trans e1
      have hbba : bb < wr.heap.size := by omega
      obtain ⟨xa, hxa⟩ : ∃ x, uA[e.a]? = some x := ⟨_, List.getElem?_eq_getElem (by rw [hS.out.len]; exact hea)⟩
      obtain ⟨caa, faa, lga⟩ := hS.out.A.cellAt hS.out.len hxa
      obtain ⟨qa, ra, hra, howna⟩ := hS.out.A.get hxa
      rw [incRows_get hea] at hra
      obtain rfl := Option.some.inj hra
      have hqa := howna.1
      simp only [List.length_map, intsI, Nat.mul_one] at hqa
      have hlla : (incL bs k e.a).length ≤ k := by
        have := List.length_filter_le (incB bs e.a) (List.range k)
        simpa [incL] using this
      have hqka : qa ≤ k := by omega
      obtain ⟨Aa', capa', rfl⟩ := ownsRow_form howna
      have hownaH := Lib.hid howna
      have hxaH := Lib.hid hxa
      obtain ⟨rowa, hrowa⟩ : ∃ row, (Value.slice Aa' qa capa').ownBlock = row := ⟨_, rfl⟩
      have r1a : ¬ some w.heap.size = rowa := fun h => hS.out.off.2.1 (.inr ⟨e.a, _, hxaH.out, hrowa.trans h.symm⟩)
      have r2a : ¬ some (w.heap.size + 1) = rowa := fun h => hS.out.A.off e.a _ _ hxaH.out (hrowa.trans h.symm) rfl
      have r3a : ¬ some bb = rowa := fun h => by
        have := (hS.out.A.ltIn hxaH.out bb (hrowa.trans h.symm)).1
        omega
      clear hxa howna hra hlla hqa
      go_wp2
      refine wp_region_row (rowa) [(0, .q), (1, .q), (2, .q), (3, .q), (4, .q), (5, .q), (6, .q), (7, .q), (8, .q), (9, .q), (10, .q), (11, .q), (12, .q), (13, .q), (14, .q), (15, .q), (16, .q), (17, .q), (18, .q), (19, .q), (20, .q), (21, .g), (22, .g), (23, .q), (24, .b)] (by kernel_rfl) (by kernel_rfl) ?_
      simp only [pick, List.filterMap_cons, List.filterMap_nil, List.getElem?_toArray, List.getElem?_cons_zero, List.getElem?_cons_succ, Option.map_some]
      repeat (first | ((with_reducible refine wpR_p (fun K hK => ?_)); go_simp; refine hK _ ?_; clear hK K) | ((with_reducible refine wpR_q (fun K hK => ?_)); go_simp; (first | refine hK _ ?_ | (go_bits; refine hK _ ?_) | (go_bits; go_simp; refine hK _ ?_)); clear hK K))
      with_reducible refine wpR_g (fun K hK => ?_)
      go_simp
      refine ⟨GrewR.of_alloc _, hK _ _ ?_⟩
      clear hK K
      have hba : Below wr.heap.size wr (wr.alloc (Obj.cells #[.int .i64 (k : Int)] 2)).drew := by exact bel_
      have hbaH := Lib.hid hba
      clear hba
      refine wpR_append_at rfl _ _ 58 rfl w.heap.size 2 i1 (.int .i64 0) 1 8 Tryz.underlying58 hi' hz0' hz1' hz2' rfl (by decide) (.slice Aa' qa capa') qa ((intsI (incL bs k e.a)).map (Value.int .i64)) (by go_simp) (ownsRow_below hownaH.out hbaH.out) hrowa ⟨wr.heap.size, 0, none⟩ 1 1 [.int .i64 (k : Int)] (by go_simp) rfl ?hnewsa (fun x hx => by simp at hx; subst hx; rfl) (by unfold maxLen; omega) (by omega) (by simp; omega) ?_
      case hnewsa =>
        have := cell_one_new wr (.int .i64 (k : Int)) 2
        simpa using this
      intro va wa3 howna hgrowa hata
      obtain ⟨Aa2, capa2, rfl⟩ := ownsRow_form howna
      have hSa2 := Lib.hid (hS.out.grow hbaH.out hxaH.out howna hgrowa hata)
      obtain ⟨caa2, faa2, lga2, _⟩ := (hS.out.below hbaH.out).A.after hS.out.len hxaH.out hgrowa
      clear howna hata caa faa
      repeat (first | ((with_reducible refine wpR_p (fun K hK => ?_)); go_simp; refine hK _ ?_; clear hK K) | ((with_reducible refine wpR_q (fun K hK => ?_)); go_simp; (first | refine hK _ ?_ | (go_bits; refine hK _ ?_) | (go_bits; go_simp; refine hK _ ?_)); clear hK K))
      with_reducible refine wpR_b (fun K hK => ?_)
      go_simp
      refine hK _ _ ?_
      clear hK K
      with_reducible refine wpR_nil ?_
      obtain ⟨W2, hW2⟩ : ∃ W2, W2 = wa3.setCell ⟨w.heap.size + 1, e.a, none⟩ (.slice Aa2 (qa + 1) capa2) := ⟨_, rfl⟩
      rw [← hW2] at hSa2 ⊢
      clear hW2 caa2 faa2 lga2 hgrowa hbaH hownaH
      have lpb := hSa2.out.lt
      have c1b := hSa2.out.c1
      have c2b := hSa2.out.c2
      have hszb := hSa2.out.bw.size
      have e0b := (hSa2.out.bw.cell (p := ⟨bb, _, none⟩) hbb).trans e0
      have e1b := (hSa2.out.bw.cell (p := ⟨bb, _, none⟩) hbb).trans e1
      have hbbb : bb < W2.heap.size := by omega
      obtain ⟨xb, hxb⟩ : ∃ x, (uA.set e.a (Value.slice Aa2 (qa + 1) capa2))[e.b]? = some x := ⟨_, List.getElem?_eq_getElem (by rw [hSa2.out.len]; exact heb)⟩
      obtain ⟨cab, fab, lgb⟩ := hSa2.out.A.cellAt hSa2.out.len hxb
      obtain ⟨qb, rb, hrb, hownb⟩ := hSa2.out.A.get hxb
      rw [List.getElem?_set_ne hneH.out, incRows_get heb] at hrb
      obtain rfl := Option.some.inj hrb
      have hqb := hownb.1
      simp only [List.length_map, intsI, Nat.mul_one] at hqb
      have hllb : (incL bs k e.b).length ≤ k := by
        have := List.length_filter_le (incB bs e.b) (List.range k)
        simpa [incL] using this
      have hqkb : qb ≤ k := by omega
      obtain ⟨Ab', capb', rfl⟩ := ownsRow_form hownb
      have hownbH := Lib.hid hownb
      have hxbH := Lib.hid hxb
      obtain ⟨rowb, hrowb⟩ : ∃ row, (Value.slice Ab' qb capb').ownBlock = row := ⟨_, rfl⟩
      have r1b : ¬ some w.heap.size = rowb := fun h => hSa2.out.off.2.1 (.inr ⟨e.b, _, hxbH.out, hrowb.trans h.symm⟩)
      have r2b : ¬ some (w.heap.size + 1) = rowb := fun h => hSa2.out.A.off e.b _ _ hxbH.out (hrowb.trans h.symm) rfl
      have r3b : ¬ some bb = rowb := fun h => by
        have := (hSa2.out.A.ltIn hxbH.out bb (hrowb.trans h.symm)).1
        omega
      clear hxb hownb hrb hllb hqb
      go_wp2
      refine wp_region_row (rowb) [(0, .q), (1, .q), (2, .q), (3, .q), (4, .q), (5, .q), (6, .q), (7, .q), (8, .q), (9, .q), (10, .q), (11, .q), (12, .q), (13, .q), (14, .q), (15, .q), (16, .q), (17, .q), (18, .q), (19, .q), (20, .q), (21, .g), (22, .g), (23, .q), (24, .b)] (by kernel_rfl) (by kernel_rfl) ?_
      simp only [pick, List.filterMap_cons, List.filterMap_nil, List.getElem?_toArray, List.getElem?_cons_zero, List.getElem?_cons_succ, Option.map_some]
      repeat (first | ((with_reducible refine wpR_p (fun K hK => ?_)); go_simp; refine hK _ ?_; clear hK K) | ((with_reducible refine wpR_q (fun K hK => ?_)); go_simp; (first | refine hK _ ?_ | (go_bits; refine hK _ ?_) | (go_bits; go_simp; refine hK _ ?_)); clear hK K))
      with_reducible refine wpR_g (fun K hK => ?_)
      go_simp
      refine ⟨GrewR.of_alloc _, hK _ _ ?_⟩
      clear hK K
      have hbb : Below W2.heap.size W2 (W2.alloc (Obj.cells #[.int .i64 (k : Int)] 2)).drew := by exact bel_
      have hbbH := Lib.hid hbb
      clear hbb
      refine wpR_append_at rfl _ _ 58 rfl w.heap.size 2 i1 (.int .i64 0) 1 8 Tryz.underlying58 hi' hz0' hz1' hz2' rfl (by decide) (.slice Ab' qb capb') qb ((intsI (incL bs k e.b)).map (Value.int .i64)) (by go_simp) (ownsRow_below hownbH.out hbbH.out) hrowb ⟨W2.heap.size, 0, none⟩ 1 1 [.int .i64 (k : Int)] (by go_simp) rfl ?hnewsb (fun x hx => by simp at hx; subst hx; rfl) (by unfold maxLen; omega) (by omega) (by simp; omega) ?_
      case hnewsb =>
        have := cell_one_new W2 (.int .i64 (k : Int)) 2
        simpa using this
      intro vb wb3 hownb hgrowb hatb
      obtain ⟨Ab2, capb2, rfl⟩ := ownsRow_form hownb
      have hSb2 := Lib.hid (hSa2.out.grow hbbH.out hxbH.out hownb hgrowb hatb)
      obtain ⟨cab2, fab2, lgb2, _⟩ := (hSa2.out.below hbbH.out).A.after hSa2.out.len hxbH.out hgrowb
      clear hownb hatb cab fab
      repeat (first | ((with_reducible refine wpR_p (fun K hK => ?_)); go_simp; refine hK _ ?_; clear hK K) | ((with_reducible refine wpR_q (fun K hK => ?_)); go_simp; (first | refine hK _ ?_ | (go_bits; refine hK _ ?_) | (go_bits; go_simp; refine hK _ ?_)); clear hK K))
      with_reducible refine wpR_b (fun K hK => ?_)
      go_simp
      refine hK _ _ ?_
      clear hK K
      with_reducible refine wpR_nil ?_
      go_wp2
      go_roundg (m - (k + 1))
      case measure => omega
      case rel =>
        have h := hSb2.out
        have hsn : ∀ l : List Nat, (intsI l).map (Value.int .i64) ++ [.int .i64 (k : Int)] = (intsI (l ++ [k])).map (Value.int .i64) := fun l => by simp [intsI]
        rw [hsn, hsn, ← hsucc.out] at h
        exact ⟨k + 1, _, _, by omega, by go_num, Lib.hid h⟩
    · obtain rfl : k = m := by omega
      go_wp2
      go_ret
      exact ⟨_, _, _, _, rfl, by rw [hml.out]; exact hS.out.net⟩
end Go.Proofs.YtmpmokefgdjnkaaGreat
/- Walks: the reference's greatest flow. -/


namespace Go.Proofs.YtmpmokefgdjnkaaGreat
open Go.RowKit Go.Shelf
attribute [local go_sem] BelowBy.cell BelowBy.cell_drew stillUpon givesUpon BelowBy.cell_drew2 BelowBy.cell_drew3

def FlowRes (w : World) (n : Nat) (B : Option Addr) (m c : Nat) (bs : List Bd) (x y : Nat) (e : Ending) (w' : World) : Prop := ∃ p gF vA uA, e = .returned (.tuple #[.pointer (some ⟨p, 0, none⟩), .int .i64 (flowV n bs x y : Int)]) ∧
  SNet w w' p n gF B m c bs.length bs (iterF n bs x y (flowV n bs x y)) vA uA
set_option maxRecDepth 100000 in
set_option maxHeartbeats 2000000 in
theorem l07Flow_any (n x y : Nat) (B : Option Addr) (m c : Nat) (bs : List Bd) (w : World) (hB : RdSl 3 RBd w B m bs) (hb : BondsOk n bs) (hx : x < n) (hy : y < n) (hxy : x ≠ y) (hn : n ≤ 100000) (hm : m ≤ 100000) :
    Calls Tryz.prog 132 #[.int .i64 (n : Int), .slice B m c, .int .i64 (x : Int), .int .i64 (y : Int)] w (FlowRes w n B m c bs x y) := by
  have hBH := Lib.hid hB
  have hbH := Lib.hid hb
  have hml := Lib.hid hB.len
  clear hB hb
  go_enter Tryz.func132, Tryz.ntmps132
  go_wp2_with (go_at_call 138; refine (l07New_any n B m c bs _ hBH.out hbH.out (by omega) hn hm).mono ?_; rintro e w1 ⟨p, gF, vA, uA, rfl, hS0⟩; have hS0H := Lib.hid hS0; clear hS0)
  go_loopg [11] (8 * m + 1) (fun gk v wr => ∃ (k : Nat) (vA : Value) (uA : List Value), k + gk = 8 * m + 1 ∧ v = .int .i64 (k : Int) ∧ Hid (∀ j, j < k → ¬ stopF n bs x y j) ∧ Hid (SNet w wr p n gF B m c bs.length bs (iterF n bs x y k) vA uA))
  case atStart => exact ⟨0, vA, uA, by omega, rfl, Lib.hid (fun j hj => by omega), hS0H⟩
  case round =>
    clear hS0H
    obtain ⟨k, vA, uA, hk, rfl, hns, hS⟩ := hrel
    have hinv := Lib.hid (iterF_inv hbH.out x y k)
    cases hw : wayTo n (edgeB bs (iterF n bs x y k)) x y with
    | none =>
      have hstop := Lib.hid (show stopF n bs x y k from hw)
      have hv := Lib.hid (flowV_eq hstop.out hns.out)
      have hwH := Lib.hid hw
      clear hw
      go_wp2_with (go_at_call 139; refine (grow_any p n gF B m c x y bs _ vA uA _ hS.out hBH.out hbH.out hinv.out hx hy hn hm).mono ?_; rintro e w2 hg; unfold GrowRes at hg; rw [hwH.out] at hg; obtain ⟨rfl, hS2⟩ := hg; have hS2H := Lib.hid hS2; clear hS2)
      go_ret2
      unfold FlowRes
      rw [hv.out]
      exact ⟨p, gF, vA, uA, rfl, hS2H.out⟩
    | some W =>
      have hnstop := Lib.hid (show ¬ stopF n bs x y k from fun h => by rw [stopF, hw] at h; cases h)
      have hwH := Lib.hid hw
      clear hw
      have hns2 := Lib.hid (show ∀ j, j < k + 1 → ¬ stopF n bs x y j from fun j hj => by
        rcases Nat.lt_succ_iff_lt_or_eq.1 hj with hj | rfl
        · exact hns.out j hj
        · exact hnstop.out)
      have hleft := iterF_left hbH.out hx hxy (k := k + 1) hns2.out
      have hk8 : k + 1 ≤ 8 * m := by have := hml.out; omega
      go_wp2_with (go_at_call 139; refine (grow_any p n gF B m c x y bs _ vA uA _ hS.out hBH.out hbH.out hinv.out hx hy hn hm).mono ?_; rintro e w2 hg; unfold GrowRes at hg; rw [hwH.out] at hg; obtain ⟨rfl, hS2⟩ := hg; have hS2H := Lib.hid hS2; clear hS2)
      go_roundg (8 * m + 1 - (k + 1))
      case measure => omega
      case rel =>
        refine ⟨k + 1, vA, uA, by omega, by go_num, hns2, Lib.hid ?_⟩
        have h := hS2H.out
        simp only [iterF, hwH.out]
        exact h
theorem ownsRow_rebase {w : World} {base base' : Nat} {e : TypeId} {s n : Nat} {x : Value} {xs : List Value} (h : w.ownsRow base e s x n xs) (hb : base' ≤ base) : w.ownsRow base' e s x n xs :=
  ⟨h.1, h.2.imp id (fun ⟨g, cap, cur, h1, h2, h3⟩ => ⟨g, cap, cur, h1, Nat.le_trans hb h2, h3⟩)⟩
theorem leftI_nonneg {l : Nat → Option Nat} {v : Nat} (h : (l v).isSome = true) : ∃ d : Nat, leftI l v = (d : Int) := by
  unfold leftI
  cases hl : l v with
  | none => rw [hl] at h; cases h
  | some d => exact ⟨d, rfl⟩
theorem leftI_neg {l : Nat → Option Nat} {v : Nat} (h : (l v).isSome = false) : leftI l v = -1 := by
  unfold leftI
  cases hl : l v with
  | none => rfl
  | some d => rw [hl] at h; cases h
set_option maxRecDepth 100000 in
set_option maxHeartbeats 2000000 in
theorem side_any {w0 : World} (p n gF : Nat) (B : Option Addr) (m c y : Nat) (bs : List Bd) (f : Nat → Int) (vA : Value) (uA : List Value) (w : World) (h : SNet w0 w p n gF B m c bs.length bs f vA uA) (hB : RdSl 3 RBd w0 B m bs) (hbo : BondsOk n bs) (hinv : InvF bs f) (hy : y < n) (hn : n ≤ 100000) (hm : m ≤ 100000) :
    Calls Tryz.prog 133 #[.pointer (some ⟨p, 0, none⟩), .int .i64 (y : Int)] w (OwnI w (leadL n (edgeB bs f) y n)) := by
  obtain ⟨i1, hi', hz0', hz1', hz2'⟩ := info_parts infoI
  have hN := Lib.hid h
  have hBH := Lib.hid hB
  have hboH := Lib.hid hbo
  have hinvH := Lib.hid hinv
  have lp := h.lt
  have k0 := h.c0
  clear h hB hbo hinv
  go_enter Tryz.func133, Tryz.ntmps133
  go_wp2_with (go_at_call 140; refine (steps_any p n gF B m c y bs f vA uA _ hN.out hBH.out hboH.out hinvH.out hy hn hm).mono ?_; rintro e w1 ⟨g, cg, rfl, hrow, hb1⟩; have hrowH := Lib.hid hrow; have hb1H := Lib.hid hb1; have lx := (hrow.lt g rfl); have hs1 := hb1.size; clear hrow hb1)
  obtain ⟨lx1, lx2⟩ := lx
  obtain ⟨wa, rfl⟩ : ∃ wa : World, wa = w1 := ⟨_, rfl⟩
  go_loopg [6, 7] n (fun gk q v wr => ∃ k : Nat, k + gk = n ∧ v = .int .i64 (k : Int) ∧ Hid (wr.ownsRow wa.heap.size 2 1 q (leadL n (edgeB bs f) y k).length ((intsI (leadL n (edgeB bs f) y k)).map (Value.int .i64))) ∧ Hid (Below wa.heap.size wa wr))
  case atStart => exact ⟨0, by omega, rfl, Lib.hid (by have := World.ownsRow_lit (base := wa.heap.size) (e := 2) (size := 1) wa #[] 0 (Nat.le_refl _) (by decide) rfl; simpa [leadL, intsI] using this), Lib.hid (bl_al (bl_refl _) _)⟩
  case round =>
    obtain ⟨k, hk, rfl, hrow, hbw⟩ := hrel
    have hsz := hbw.out.size
    obtain ⟨A1, c1, rfl⟩ := ownsRow_form hrow.out
    have k1 := ((hbw.out.cell (p := ⟨p, 0, none⟩) (by show p < _; omega)).trans (hb1H.out.cell (p := ⟨p, 0, none⟩) lp)).trans k0
    have lp1 : p < wr.heap.size := by omega
    by_cases hkn : k < n
    · have cx := ((hbw.out.cell (p := ⟨g, k, none⟩) lx2).trans (hrowH.out.cellAt k (by omega))).trans (rowL_get hkn)
      have lg2 : g < wr.heap.size := by omega
      by_cases hd : (distTo n (edgeB bs f) y k).isSome = true
      · obtain ⟨d, hdE⟩ := leftI_nonneg hd
        rw [hdE] at cx
        have hdH := Lib.hid hd
        have hll := leadL_len n (edgeB bs f) y k
        obtain ⟨N, hNE⟩ : ∃ N, (leadL n (edgeB bs f) y k).length = N := ⟨_, rfl⟩
        rw [hNE] at hrow hll ⊢
        have hNH := Lib.hid hNE
        clear hd hdE hNE
        go_wp2_with (at_builtin; refine wpList_append_own _ rfl _ _ 58 rfl wa.heap.size 2 i1 (.int .i64 0) 1 8 Tryz.underlying58 hi' hz0' hz1' hz2' rfl (by decide) _ N ((intsI (leadL n (edgeB bs f) y k)).map (Value.int .i64)) rfl (hrow.out.alloc _) ⟨wr.heap.size, 0, none⟩ 1 1 [.int .i64 (k : Int)] rfl rfl (cell_one_new _ _ _) (fun x hx => by simp at hx; subst hx; rfl) (by unfold maxLen; omega) (by omega) (by simp; omega) ?_; intro u3 w3 hown3 hgrow3 _; have hown3H := Lib.hid hown3; have hgrow3H := Lib.hid hgrow3; clear hown3 hgrow3)
        go_roundg (n - (k + 1))
        case measure => omega
        case rel =>
          refine ⟨k + 1, by omega, by go_num, Lib.hid ?_, Lib.hid (hbw.out.trans (below_app hsz (fun b e => (hrow.out.lt b e).1) hgrow3H.out))⟩
          rw [leadL_yes hdH.out, List.length_append, hNH.out]
          have h3 := hown3H.out
          simpa [intsI] using h3
      · have hd' : (distTo n (edgeB bs f) y k).isSome = false := by simpa using hd
        rw [leftI_neg hd'] at cx
        have hdH := Lib.hid hd'
        clear hd hd'
        go_wp2
        go_roundg (n - (k + 1))
        case measure => omega
        case rel => exact ⟨k + 1, by omega, by go_num, Lib.hid (by rw [leadL_no hdH.out]; exact hrow.out), hbw⟩
    · obtain rfl : k = n := by omega
      go_wp2
      go_ret
      exact ⟨_, rfl, ownsRow_rebase hrow.out hs1, hb1H.out.trans (hbw.out.mono hs1)⟩
end Go.Proofs.YtmpmokefgdjnkaaGreat
/- Small words: a result that is a row of numbers and a code. -/

namespace Go.Proofs.YtmpmokefgdjnkaaGreat
open Go.RowKit Go.Shelf

/-- a row of numbers and a code -/
def IntsRes (w : World) (r : List Int × Int) (e : Ending) (w' : World) : Prop :=
  ∃ A c, e = .returned (.tuple #[.slice A r.1.length c, .int .i64 r.2]) ∧ w'.ownsRow w.heap.size 2 1 (.slice A r.1.length c) r.1.length (r.1.map (Value.int .i64)) ∧ Below w.heap.size w w'
theorem rdI_of {W : World} {base : Nat} {v : Value} {bs : List Int} (h : W.ownsRow base 2 1 v bs.length (bs.map (Value.int .i64))) : ∃ A cap, v = .slice A bs.length cap ∧ RdSl 1 RInt W A bs.length bs := by
  rcases h.2 with ⟨rfl, h0⟩ | ⟨g, cap, cur, rfl, hb, hh, hn, hm, hs, ht⟩
  · exact ⟨none, 0, by rw [h0], rfl, fun hp => by omega⟩
  · refine ⟨_, cap, rfl, rfl, fun hp => ⟨g, 0, rfl, (Array.getElem?_eq_some_iff.1 hh).1, fun k hk => ?_⟩⟩
    have hg : (bs.map (Value.int .i64))[k]? = some (.int .i64 bs[k]) := by simp [hk]
    rw [← ht, List.getElem?_take] at hg
    split at hg
    · simp only [RInt, World.cell?, hh, Nat.zero_add, Nat.mul_one]
      simpa using hg
    · cases hg
theorem IntsRes.of {w w' : World} {r : List Int × Int} {bs : List Int} {c : Int} {v : Value} (h : (bs, c) = r) (hr : w'.ownsRow w.heap.size 2 1 v bs.length (bs.map (Value.int .i64))) (hb : Below w.heap.size w w') : IntsRes w r (.returned (.tuple #[v, .int .i64 c])) w' := by
  subst h
  obtain ⟨A, cap, rfl, _⟩ := rdI_of hr
  exact ⟨A, cap, rfl, hr, hb⟩
theorem rdI {W : World} {base : Nat} {A : Option Addr} {n c : Nat} {bs : List Int} (h : W.ownsRow base 2 1 (.slice A n c) n (bs.map (Value.int .i64))) (hn : n = bs.length := by rfl) : RdSl 1 RInt W A n bs := by
  subst hn
  obtain ⟨A', cap, e, h'⟩ := rdI_of h
  injection e with e1 e2 e3
  subst e1
  exact h'
/-- a number, a row of numbers and a code -/
def FluxRes (w : World) (r : Int × List Int × Int) (e : Ending) (w' : World) : Prop :=
  ∃ A c, e = .returned (.tuple #[.int .i64 r.1, .slice A r.2.1.length c, .int .i64 r.2.2]) ∧ w'.ownsRow w.heap.size 2 1 (.slice A r.2.1.length c) r.2.1.length (r.2.1.map (Value.int .i64)) ∧ Below w.heap.size w w'
theorem FluxRes.of {w w' : World} {r : Int × List Int × Int} {bs : List Int} {a c : Int} {v : Value} (h : (a, bs, c) = r) (hr : w'.ownsRow w.heap.size 2 1 v bs.length (bs.map (Value.int .i64))) (hb : Below w.heap.size w w') : FluxRes w r (.returned (.tuple #[.int .i64 a, v, .int .i64 c])) w' := by
  subst h
  obtain ⟨A, cap, rfl, _⟩ := rdI_of hr
  exact ⟨A, cap, rfl, hr, hb⟩
end Go.Proofs.YtmpmokefgdjnkaaGreat
/- Plain: bonds' indices are in range; what a code 0 says. -/


namespace Go.Proofs.YtmpmokefgdjnkaaGreat
open Go.RowKit Go.Shelf
attribute [local go_sem] BelowBy.cell BelowBy.cell_drew stillUpon givesUpon BelowBy.cell_drew2 BelowBy.cell_drew3

theorem bondsOk {gs : List Gl} {ts : List Ti} {xs : List Pl} (hV : Valid gs ts xs) : BondsOk xs.length (bondsL gs ts xs) :=
  ⟨fun i e h => (bondsL_at hV h).1, fun i e h => (bondsL_at hV h).2.1, fun i e h => bondsL_ne h, fun i e h => (bondsL_at hV h).2.2⟩
theorem fullCode_zero {v : Bool} {q : Nat} {x y : Int} (h : fullCode v q x y = 0) : v = true ∧ ∃ xn yn : Nat, x = xn ∧ y = yn ∧ xn < q ∧ yn < q ∧ xn ≠ yn ∧ q ≤ 64 := by
  unfold fullCode at h
  split at h
  · rename_i hc; exact (hc h).elim
  · rename_i hc
    have hc : cutCodeI v q x y = 0 := by simpa using hc
    split at h
    · cases h
    · obtain ⟨h1, h2, h3, h4⟩ := cutCodeI_zero hc
      exact ⟨h1, x.toNat, y.toNat, by omega, by omega, by omega, by omega, by omega, by omega⟩
end Go.Proofs.YtmpmokefgdjnkaaGreat
/- Walks: the reference's weakest cut. -/




namespace Go.Proofs.YtmpmokefgdjnkaaGreat
open Go.RowKit Go.Shelf
attribute [local go_sem] BelowBy.cell BelowBy.cell_drew stillUpon givesUpon BelowBy.cell_drew2 BelowBy.cell_drew3

set_option maxHeartbeats 1000000 in
theorem l07Before_any (v b : Int) (A B : Option Addr) (n m c d : Nat) (l1 l2 : List Int) (w : World) (h1 : RdSl 1 RInt w A n l1) (h2 : RdSl 1 RInt w B m l2) (hn : n ≤ 1073741824) (hm : m ≤ 1073741824) {r : Bool} (hr : beforeI v l1 b l2 = r) :
    Calls Tryz.prog 134 #[.int .i64 v, .slice A n c, .int .i64 b, .slice B m d] w fun e w' => e = .returned (.bool r) ∧ Below w.heap.size w w' := by
  
  have hl1 := h1.len
  have hl2 := h2.len
  have hrH := Lib.hid hr
  clear hr
  by_cases hv : v = b
  · subst hv
    by_cases hl : n = m
    · subst hl
      go_enter Tryz.func134, Tryz.ntmps134
      go_wp2
      go_loopg [9] n (fun g i wr => ∃ k : Nat, k + g = n ∧ i = .int .i64 (k : Int) ∧ Hid (∀ j, j < k → l1[j]? = l2[j]?) ∧ Below w.heap.size w wr)
      case atStart => exact ⟨0, by omega, rfl, Lib.hid (fun j hj => by omega), bl_refl _⟩
      case round =>
        obtain ⟨k, hk, rfl, hsame, hbw⟩ := hrel
        have r1 := h1.below RInt.stable hbw
        have r2 := h2.below RInt.stable hbw
        by_cases hlt : k < n
        · obtain ⟨bb, o, rfl, hb, hc⟩ := r1.ptr (by omega)
          obtain ⟨b2, o2, rfl, hb2, hc2⟩ := r2.ptr (by omega)
          obtain ⟨e, he⟩ := h1.get hlt
          obtain ⟨e2, he2⟩ := h2.get hlt
          have c1 := hc k e he
          have c2 := hc2 k e2 he2
          unfold RInt at c1 c2
          simp only [Nat.mul_one] at c1 c2
          by_cases hee : e = e2
          · subst hee
            have hs2 := Lib.hid (show ∀ j, j < k + 1 → l1[j]? = l2[j]? from fun j hj => by
              rcases Nat.lt_succ_iff_lt_or_eq.1 hj with hj | rfl
              · exact hsame.out j hj
              · rw [he, he2])
            clear hc hc2 he he2 r1 r2
            go_wp2
            refine wp_region_ord [(0, .q), (1, .q), (2, .q), (3, .q), (4, .q), (5, .q), (6, .q), (7, .q), (8, .q)] (by kernel_rfl) (by kernel_rfl) ?_
            simp only [pick, List.filterMap_cons, List.filterMap_nil, List.getElem?_toArray, List.getElem?_cons_zero, List.getElem?_cons_succ, Option.map_some]
            repeat (first
              | ((with_reducible refine wpD_p (fun K hK => ?_)); go_simp; refine hK _ ?_; clear hK K)
              | ((with_reducible refine wpD_q (fun K hK => ?_)); go_simp; (first | refine hK _ ?_ | (go_bits; refine hK _ ?_) | (go_bits; go_simp; refine hK _ ?_)); clear hK K)
              | ((with_reducible refine wpD_g (fun K hK => ?_)); go_simp; refine hK _ _ ?_; clear hK K)
              | ((with_reducible refine wpD_g (fun K hK => ?_)); go_simp; refine ⟨Grew.of_alloc _, hK _ _ ?_⟩; clear hK K))
            with_reducible refine wpD_nil ?_
            go_wp2
            go_roundg (n - (k + 1))
            case measure => omega
            case rel => exact ⟨k + 1, by omega, by go_num, hs2, (by exact bel_)⟩
          · have hq := lexB_at hsame.out he he2 hee
            have hrr := Lib.hid (show decide (e < e2) = r by rw [← hrH.out, beforeI_lex (by omega), hq])
            have hed : (e == e2) = false := by simpa using hee
            clear hc hc2 he he2 r1 r2 hq
            go_wp2
            refine wp_region_ord [(0, .q), (1, .q), (2, .q), (3, .q), (4, .q), (5, .q), (6, .q), (7, .q), (8, .q)] (by kernel_rfl) (by kernel_rfl) ?_
            simp only [pick, List.filterMap_cons, List.filterMap_nil, List.getElem?_toArray, List.getElem?_cons_zero, List.getElem?_cons_succ, Option.map_some]
            repeat (first
              | ((with_reducible refine wpD_p (fun K hK => ?_)); go_simp; refine hK _ ?_; clear hK K)
              | ((with_reducible refine wpD_q (fun K hK => ?_)); go_simp; (first | refine hK _ ?_ | (go_bits; refine hK _ ?_) | (go_bits; go_simp; refine hK _ ?_)); clear hK K)
              | ((with_reducible refine wpD_g (fun K hK => ?_)); go_simp; refine hK _ _ ?_; clear hK K)
              | ((with_reducible refine wpD_g (fun K hK => ?_)); go_simp; refine ⟨Grew.of_alloc _, hK _ _ ?_⟩; clear hK K))
            with_reducible refine wpD_nil ?_
            go_wp2
            refine wp_region_ord [(0, .q), (1, .q), (2, .q), (3, .q), (4, .q), (5, .q), (6, .q), (7, .q), (8, .q), (9, .q)] (by kernel_rfl) (by kernel_rfl) ?_
            simp only [pick, List.filterMap_cons, List.filterMap_nil, List.getElem?_toArray, List.getElem?_cons_zero, List.getElem?_cons_succ, Option.map_some]
            repeat (first
              | ((with_reducible refine wpD_p (fun K hK => ?_)); go_simp; refine hK _ ?_; clear hK K)
              | ((with_reducible refine wpD_q (fun K hK => ?_)); go_simp; (first | refine hK _ ?_ | (go_bits; refine hK _ ?_) | (go_bits; go_simp; refine hK _ ?_)); clear hK K)
              | ((with_reducible refine wpD_g (fun K hK => ?_)); go_simp; refine hK _ _ ?_; clear hK K)
              | ((with_reducible refine wpD_g (fun K hK => ?_)); go_simp; refine ⟨Grew.of_alloc _, hK _ _ ?_⟩; clear hK K))
            with_reducible refine wpD_nil ?_
            go_wp2
            go_ret
            exact ⟨ret_bool hrr.out, by exact bel_⟩
        · obtain rfl : k = n := by omega
          have hll := lexB_end hl1 hl2 hsame.out
          have hrr := Lib.hid (show false = r by rw [← hrH.out, hll, beforeI_lex rfl, lexB_refl])
          clear hll
          go_wp2
          go_ret
          exact ⟨ret_bool hrr.out, by exact bel_⟩
    · have hq := Lib.hid (beforeI_len (v := v) (s := l1) (p := l2) (by omega))
      have hld : ((n : Int) == (m : Int)) = false := by simp; omega
      go_enter Tryz.func134, Tryz.ntmps134
      go_wp2
      go_ret
      exact ⟨ret_bool (by rw [← hrH.out, hq.out, hl1, hl2]), by exact bel_⟩
  · have hq := Lib.hid (beforeI_ne (s := l1) (p := l2) hv)
    have hvd : (v == b) = false := by simpa using hv
    go_enter Tryz.func134, Tryz.ntmps134
    go_wp2
    go_ret
    exact ⟨ret_bool (by rw [← hrH.out, hq.out]), by exact bel_⟩
def WeakRes (w : World) (n : Nat) (bs : List Bd) (e : Ending) (w' : World) : Prop := ∃ v, e = .returned (.tuple #[.int .i64 (weakR n bs).1, v]) ∧
  w'.ownsRow w.heap.size 2 1 v (intsI (weakR n bs).2).length ((intsI (weakR n bs).2).map (Value.int .i64)) ∧ Below w.heap.size w w'
theorem l07Flow0_any (n y : Nat) (B : Option Addr) (m c : Nat) (bs : List Bd) (w : World) (hB : RdSl 3 RBd w B m bs) (hb : BondsOk n bs) (hy : y < n) (hy0 : 0 < y) (hn : n ≤ 100000) (hm : m ≤ 100000) :
    Calls Tryz.prog 132 #[.int .i64 (n : Int), .slice B m c, .int .i64 0, .int .i64 (y : Int)] w (FlowRes w n B m c bs 0 y) := l07Flow_any n 0 y B m c bs w hB hb (by omega) hy (by omega) hn hm
set_option maxRecDepth 100000 in
set_option maxHeartbeats 2000000 in
theorem l07Weakest_any (n : Nat) (B : Option Addr) (m c : Nat) (bs : List Bd) (w : World) (hB : RdSl 3 RBd w B m bs) (hb : BondsOk n bs) (hn1 : 1 ≤ n) (hn : n ≤ 100000) (hm : m ≤ 100000) :
    Calls Tryz.prog 122 #[.int .i64 (n : Int), .slice B m c] w (WeakRes w n bs) := by
  have hBH := Lib.hid hB
  have hbH := Lib.hid hb
  clear hB hb
  go_enter Tryz.func122, Tryz.ntmps122
  go_wp2
  go_loopg [8, 6, 7] (n - 1) (fun gk yv bv v wr => ∃ (y : Nat) (b : Int) (p : List Nat), y + gk = n ∧ 1 ≤ y ∧ yv = .int .i64 (y : Int) ∧ bv = .int .i64 b ∧ Hid (weakK n bs (y - 1) = (b, p)) ∧ Hid (wr.ownsRow w.heap.size 2 1 v (intsI p).length ((intsI p).map (Value.int .i64))) ∧ Hid (Below w.heap.size w wr))
  case atStart => exact ⟨1, -1, [], by omega, by omega, rfl, rfl, Lib.hid rfl, Lib.hid (by have := World.ownsRow_lit (base := w.heap.size) (e := 2) (size := 1) w #[] 0 (Nat.le_refl _) (by decide) rfl; simpa [intsI] using this), Lib.hid (bl_al (bl_refl _) _)⟩
  case round =>
    obtain ⟨y, b, p, hy, hy1, rfl, rfl, hW, hrow, hbw⟩ := hrel
    have hsz := hbw.out.size
    obtain ⟨A1, c1, rfl, hrd⟩ := rdI_of hrow.out
    have hrdH := Lib.hid hrd
    clear hrd
    by_cases hyn : y < n
    · obtain ⟨fv, hfv⟩ : ∃ fv, flowV n bs 0 y = fv := ⟨_, rfl⟩
      obtain ⟨sd, hsd⟩ : ∃ sd, sideL n bs y = sd := ⟨_, rfl⟩
      have hfvH := Lib.hid hfv
      have hsdH := Lib.hid hsd
      have hsl : sd.length ≤ n := by rw [← hsd]; exact leadL_len _ _ _ _
      have hB1 := Lib.hid (hBH.out.below RBd.stable hbw.out)
      clear hfv hsd
      obtain ⟨r, hrE⟩ : ∃ r, (decide (b < 0) || before fv sd b p) = r := ⟨_, rfl⟩
      have hrH := Lib.hid hrE
      clear hrE
      rcases weakY_cases n bs hy1 with ⟨rfl, h0⟩ | ⟨bn, p', h0, hpl⟩
      · rw [hW.out] at h0
        injection h0 with h1 h2
        subst h1; subst h2
        go_wp2_with (first
          | (go_at_call 132; refine (l07Flow0_any n 1 B m c bs _ hB1.out hbH.out hyn (by omega) hn hm).mono ?_; rintro e w1 ⟨q, gF, vA, uA, rfl, hS⟩; rw [hfvH.out]; have hSH := Lib.hid hS; have hb1H := Lib.hid hS.bw; have hs1 := hS.bw.size; clear hS)
          | (go_at_call 133; refine (side_any q n gF B m c 1 bs _ vA uA _ hSH.out hB1.out hbH.out (iterF_inv hbH.out 0 1 _) hyn hn hm).mono ?_; rintro e w2 ⟨v2, rfl, hrow2, hb2⟩; rw [show leadL n (edgeB bs (iterF n bs 0 1 (flowV n bs 0 1))) 1 n = sd from hsdH.out] at hrow2; have hrow2H := Lib.hid hrow2; have hb2H := Lib.hid hb2; clear hrow2 hb2))
        go_roundg (n - 2)
        case measure => omega
        case rel =>
          refine ⟨2, fv, sd, by omega, by omega, by go_num, rfl, Lib.hid (weakY_take (y := 1) (by omega) hW.out hfvH.out hsdH.out (by simp)), Lib.hid ?_, Lib.hid (hbw.out.trans ((hb1H.out.trans (hb2H.out.mono hs1)).mono hsz))⟩
          rw [show (intsI sd).length = sd.length by simp [intsI]]
          exact ownsRow_base hrow2H.out (by omega)
      · rw [hW.out] at h0
        injection h0 with h1 h2
        subst h1; subst h2
        have hbn : ¬ ((bn : Int) < 0) := by omega
        have hbnd : decide ((bn : Int) < 0) = false := by simp
        have hbe : beforeI (fv : Int) (intsI sd) (bn : Int) (intsI p) = r := by
          have := hrH.out
          rw [hbnd, Bool.false_or] at this
          exact this
        have hbeH := Lib.hid hbe
        clear hbe
        obtain ⟨N, hN⟩ : ∃ N, (intsI p).length = N := ⟨_, rfl⟩
        have hNH := Lib.hid hN
        have hNl : N ≤ n := by rw [← hN]; simpa [intsI] using hpl
        rw [hN] at hrow hrdH ⊢
        clear hN
        cases r
        · go_wp2_with (first
            | (go_at_call 132; refine (l07Flow0_any n y B m c bs _ hB1.out hbH.out hyn (by omega) hn hm).mono ?_; rintro e w1 ⟨q, gF, vA, uA, rfl, hS⟩; rw [hfvH.out]; have hSH := Lib.hid hS; have hb1H := Lib.hid hS.bw; have hs1 := hS.bw.size; clear hS)
            | (go_at_call 133; refine (side_any q n gF B m c y bs _ vA uA _ hSH.out hB1.out hbH.out (iterF_inv hbH.out 0 y _) hyn hn hm).mono ?_; rintro e w2 ⟨v2, rfl, hrow2, hb2⟩; rw [show leadL n (edgeB bs (iterF n bs 0 y (flowV n bs 0 y))) y n = sd from hsdH.out] at hrow2; have hrow2' := hrow2; rw [show sd.length = (intsI sd).length by simp [intsI]] at hrow2'; obtain ⟨A2, c2, rfl, hrd2⟩ := rdI_of hrow2'; have hrow2H := Lib.hid hrow2'; have hrd2H := Lib.hid hrd2; have hb2H := Lib.hid hb2; have hbb := Lib.hid (hb1H.out.trans (hb2.mono hs1)); clear hrow2 hrow2' hrd2 hb2)
            | (go_at_call 134; refine (l07Before_any _ _ _ _ _ _ _ _ _ _ _ hrd2H.out (hrdH.out.below RInt.stable hbb.out) (by simp [intsI]; omega) (by omega) hbeH.out).mono ?_; rintro e w3 ⟨rfl, hb3⟩; have hb3H := Lib.hid hb3; have hs3 := hbb.out.size; clear hb3))
          go_roundg (n - (y + 1))
          case measure => omega
          case rel =>
            have hall := hbb.out.trans (hb3H.out.mono hs3)
            refine ⟨y + 1, bn, p, by omega, by omega, by go_num, rfl, Lib.hid (weakY_keep (by omega) hW.out hfvH.out hsdH.out hrH.out), Lib.hid ?_, Lib.hid (hbw.out.trans (hall.mono hsz))⟩
            rw [hNH.out]
            exact ownsRow_below hrow.out hall
        · go_wp2_with (first
            | (go_at_call 132; refine (l07Flow0_any n y B m c bs _ hB1.out hbH.out hyn (by omega) hn hm).mono ?_; rintro e w1 ⟨q, gF, vA, uA, rfl, hS⟩; rw [hfvH.out]; have hSH := Lib.hid hS; have hb1H := Lib.hid hS.bw; have hs1 := hS.bw.size; clear hS)
            | (go_at_call 133; refine (side_any q n gF B m c y bs _ vA uA _ hSH.out hB1.out hbH.out (iterF_inv hbH.out 0 y _) hyn hn hm).mono ?_; rintro e w2 ⟨v2, rfl, hrow2, hb2⟩; rw [show leadL n (edgeB bs (iterF n bs 0 y (flowV n bs 0 y))) y n = sd from hsdH.out] at hrow2; have hrow2' := hrow2; rw [show sd.length = (intsI sd).length by simp [intsI]] at hrow2'; obtain ⟨A2, c2, rfl, hrd2⟩ := rdI_of hrow2'; have hrow2H := Lib.hid hrow2'; have hrd2H := Lib.hid hrd2; have hb2H := Lib.hid hb2; have hbb := Lib.hid (hb1H.out.trans (hb2.mono hs1)); clear hrow2 hrow2' hrd2 hb2)
            | (go_at_call 134; refine (l07Before_any _ _ _ _ _ _ _ _ _ _ _ hrd2H.out (hrdH.out.below RInt.stable hbb.out) (by simp [intsI]; omega) (by omega) hbeH.out).mono ?_; rintro e w3 ⟨rfl, hb3⟩; have hb3H := Lib.hid hb3; have hs3 := hbb.out.size; have hs2 := hb2H.out.size; clear hb3))
          go_roundg (n - (y + 1))
          case measure => omega
          case rel =>
            have hall := hbb.out.trans (hb3H.out.mono hs3)
            refine ⟨y + 1, fv, sd, by omega, by omega, by go_num, rfl, Lib.hid (weakY_take (by omega) hW.out hfvH.out hsdH.out hrH.out), Lib.hid ?_, Lib.hid (hbw.out.trans (hall.mono hsz))⟩
            exact ownsRow_base (ownsRow_below hrow2H.out hb3H.out) (by omega)
    · obtain rfl : y = n := by omega
      go_wp2
      go_ret2
      refine ⟨.slice A1 (intsI p).length c1, ?_, ?_, hbw.out⟩
      · unfold weakR; rw [hW.out]; rfl
      · unfold weakR; rw [hW.out]; exact hrow.out
noncomputable def weakCutR (gs : List Gl) (ts : List Ti) (xs : List Pl) : Int × List Int × Int :=
  if validAsmB gs ts xs = false then (0, [], 1) else if xs.length < 2 then (0, [], 3) else if 64 < xs.length then (0, [], 4) else ((weakR xs.length (bondsL gs ts xs)).1, intsI (weakR xs.length (bondsL gs ts xs)).2, 0)
theorem weakCutR_no {gs : List Gl} {ts : List Ti} {xs : List Pl} (h : validAsmB gs ts xs = false) : (((0 : Int), ([] : List Int), (1 : Int)) : Int × List Int × Int) = weakCutR gs ts xs := by unfold weakCutR; rw [if_pos h]
theorem weakCutR_few {gs : List Gl} {ts : List Ti} {xs : List Pl} (h : validAsmB gs ts xs = true) (h2 : xs.length < 2) : (((0 : Int), ([] : List Int), (3 : Int)) : Int × List Int × Int) = weakCutR gs ts xs := by unfold weakCutR; rw [if_neg (by rw [h]; decide), if_pos h2]
theorem weakCutR_full {gs : List Gl} {ts : List Ti} {xs : List Pl} (h : validAsmB gs ts xs = true) (h2 : ¬ xs.length < 2) (h3 : 64 < xs.length) : (((0 : Int), ([] : List Int), (4 : Int)) : Int × List Int × Int) = weakCutR gs ts xs := by unfold weakCutR; rw [if_neg (by rw [h]; decide), if_neg h2, if_pos h3]
theorem weakCutR_yes {gs : List Gl} {ts : List Ti} {xs : List Pl} (h : validAsmB gs ts xs = true) (h2 : ¬ xs.length < 2) (h3 : ¬ 64 < xs.length) : (((weakR xs.length (bondsL gs ts xs)).1, intsI (weakR xs.length (bondsL gs ts xs)).2, (0 : Int)) : Int × List Int × Int) = weakCutR gs ts xs := by unfold weakCutR; rw [if_neg (by rw [h]; decide), if_neg h2, if_neg h3]
theorem weakCutR_len (gs : List Gl) (ts : List Ti) (xs : List Pl) : (weakCutR gs ts xs).2.1.length ≤ 1073741824 := by
  unfold weakCutR
  split
  · simp
  · split
    · simp
    · split
      · simp
      · have := weakK_len xs.length (bondsL gs ts xs) (xs.length - 1)
        simp only [intsI, List.length_map, weakR]
        omega
end Go.Proofs.YtmpmokefgdjnkaaGreat
/- Walks: the reference's bonds between groups. -/




namespace Go.Proofs.YtmpmokefgdjnkaaGreat
open Go.RowKit Go.Shelf
attribute [local go_sem] BelowBy.cell BelowBy.cell_drew stillUpon givesUpon BelowBy.cell_drew2 BelowBy.cell_drew3

def ShrRes (w : World) (k : Nat) (cs : List Bd) (e : Ending) (w' : World) : Prop := ∃ v, e = .returned (.tuple #[.int .i64 (k : Int), v]) ∧ w'.ownsRow w.heap.size 100 3 v cs.length (bdCells cs) ∧ Below w.heap.size w w'
set_option maxRecDepth 100000 in
set_option maxHeartbeats 4000000 in
theorem l07Shrunk_any (n : Nat) (B : Option Addr) (m c : Nat) (bs : List Bd) (t : Int) (w : World) (hB : RdSl 3 RBd w B m bs) (hb : BondsOk n bs) (hn : n ≤ 100000) (hm : m ≤ 100000) :
    Calls Tryz.prog 121 #[.int .i64 (n : Int), .slice B m c, .int .i64 t] w (ShrRes w (grpT n bs t).length (shrS n bs t)) := by
  obtain ⟨i0, hi, hz0, hz1, hz2⟩ := info_parts infoBond
  have hmk := fun W => run_makeN (P := Tryz.prog) 58 2 _ 1 8 Tryz.underlying58 infoI n (by omega) (by omega) W
  have hBH := Lib.hid hB
  have hbH := Lib.hid hb
  have hml := Lib.hid hB.len
  clear hB hb
  go_enter Tryz.func121, Tryz.ntmps121
  go_wp2
  go_loopg [9, 8] m (fun gk i v wr => ∃ k : Nat, k + gk = m ∧ i = .int .i64 (k : Int) ∧ Hid (wr.ownsRow w.heap.size 100 3 v (strongL t bs k).length (bdCells (strongL t bs k))) ∧ Hid (Below w.heap.size w wr))
  case atStart => exact ⟨0, by omega, rfl, Lib.hid (by have := World.ownsRow_lit (base := w.heap.size) (e := 100) (size := 3) w #[] 0 (Nat.le_refl _) (by decide) rfl; simpa [strongL, bdCells] using this), Lib.hid (bl_al (bl_refl _) _)⟩
  case round =>
    obtain ⟨k, hk, rfl, hrow, hbw⟩ := hrel
    have hsz := hbw.out.size
    obtain ⟨A1, c1, rfl⟩ := ownsRow_form hrow.out
    by_cases hkm : k < m
    · clear hmk
      have hBw := hBH.out.below RBd.stable hbw.out
      obtain ⟨bb, ob, rfl, hbb, hbc⟩ := hBw.ptr (by omega)
      obtain ⟨e, he⟩ := hBw.get hkm
      obtain ⟨e0, e1, e2⟩ := hbc k e he
      have hsl := strongL_len t bs k
      obtain ⟨L, hL⟩ : ∃ L, (strongL t bs k).length = L := ⟨_, rfl⟩
      rw [hL] at hrow hsl ⊢
      have hLH := Lib.hid hL
      have heH := Lib.hid he
      clear hbc he hBw hL
      by_cases hts : t ≤ e.s
      · have hy := Lib.hid (strongL_yes heH.out hts)
        go_wp2_with (at_builtin; refine wpList_append_own _ rfl _ _ 66 rfl w.heap.size 100 i0 (.agg #[.int .i64 0, .int .i64 0, .int .i64 0]) 3 24 Tryz.underlying66 hi hz0 hz1 hz2 rfl (by decide) _ L (bdCells (strongL t bs k)) rfl (hrow.out.alloc _) ⟨wr.heap.size, 0, none⟩ 1 1 [.int .i64 (e.a : Int), .int .i64 (e.b : Int), .int .i64 e.s] rfl rfl (cell_three_new _ _ _ _ _) (fun x hx => by simp at hx; rcases hx with rfl | rfl | rfl <;> rfl) (by unfold maxLen; omega) (by omega) (by simp; omega) ?_; intro u3 w3 hown3 hgrow3 _; have hown3H := Lib.hid hown3; have hgrow3H := Lib.hid hgrow3; clear hown3 hgrow3)
        go_roundg (m - (k + 1))
        case measure => omega
        case rel =>
          refine ⟨k + 1, by omega, by go_num, Lib.hid ?_, Lib.hid (hbw.out.trans (below_app hsz (fun b e => (hrow.out.lt b e).1) hgrow3H.out))⟩
          rw [hy.out, bdCells_snoc, List.length_append, hLH.out]
          exact hown3H.out
      · have hy := Lib.hid (strongL_no heH.out hts)
        go_wp2
        go_roundg (m - (k + 1))
        case measure => omega
        case rel => exact ⟨k + 1, by omega, by go_num, Lib.hid (by rw [hy.out, hLH.out]; exact hrow.out), hbw⟩
    · obtain rfl : k = m := by omega
      have hsl := strongL_len t bs k
      obtain ⟨A2, c2, hA2, hrd⟩ := rd_of_row hrow.out
      injection hA2 with hA2 _ hc2
      subst hA2; subst hc2
      have hrdH := Lib.hid hrd
      have hin := Lib.hid (show ∀ (j : Nat) (e : Bd), (strongL t bs k)[j]? = some e → e.a < n ∧ e.b < n from fun j e h => by obtain ⟨q, hq⟩ := strongL_mem h; exact ⟨hbH.out.a q e hq, hbH.out.b q e hq⟩)
      have hgr := Lib.hid (show grpT n bs t = groupsL (labOf (strongL t bs k) (strongL t bs k).length) n by unfold grpT; rw [hml.out])
      clear hrd
      obtain ⟨wa, rfl⟩ : ∃ wa : World, wa = wr := ⟨_, rfl⟩
      go_wp2_with (go_at_call 131; refine (l06Groups_any n A1 _ c1 (strongL t bs k) _ hrdH.out hn (by omega) hin.out).mono ?_; rw [← hgr.out]; rintro e w1 ⟨vG, us, rfl, hown, hb1⟩; have hownH := Lib.hid hown; have hb1H := Lib.hid hb1; have hs1 := hb1.size; obtain ⟨AG, cG, rfl⟩ := hown.form hown.len; clear hown hb1)
      have hK := grpT_len n bs t
      obtain ⟨gss, hgss⟩ : ∃ gss, grpT n bs t = gss := ⟨_, rfl⟩
      have hgssH := Lib.hid hgss
      obtain ⟨K, hKE⟩ : ∃ K, gss.length = K := ⟨_, rfl⟩
      have hKH := Lib.hid hKE
      rw [hgss] at hownH hK ⊢
      have husl := Lib.hid (show us.length = K by rw [hownH.out.len, List.length_map, hKE])
      rw [List.length_map, hKE] at hownH
      try rw [List.length_map]
      rw [hKE]
      rw [hKE] at hK
      clear hgss hKE
      go_loopg [12] K (fun gk i wr => ∃ g : Nat, g + gk = K ∧ i = .int .i64 (g : Int) ∧ Hid (wr.rowIs w1.heap.size 2 n (fun x => .int .i64 (ofG gss g x : Int))) ∧ Hid (Below w1.heap.size w1 wr))
      case atStart => exact ⟨0, by omega, rfl, Lib.hid (by have := World.rowIs_made w1 (.int .i64 0) n 2; simpa [ofG] using this), Lib.hid (bl_al (bl_refl _) _)⟩
      case round =>
        clear hmk
        obtain ⟨g, hg, rfl, hnm, hbg⟩ := hrel
        have hszg := hbg.out.size
        have hownr := hownH.out.below hbg.out
        by_cases hgK : g < K
        · obtain ⟨gG, cG', hvG⟩ := hownr.formPos husl.out (by omega)
          injection hvG with hv1 hv2 hv3
          subst hv1; subst hv3
          obtain ⟨u, hu⟩ : ∃ u, us[g]? = some u := ⟨_, List.getElem?_eq_getElem (by rw [husl.out]; exact hgK)⟩
          obtain ⟨l, hl⟩ : ∃ l, gss[g]? = some l := ⟨_, List.getElem?_eq_getElem (by rw [hKH.out]; exact hgK)⟩
          obtain ⟨cu, fu, lu⟩ := hownH.out.cellAt husl.out hu
          obtain ⟨N0, r0, hr0, hin0⟩ := hownH.out.get hu
          rw [List.getElem?_map, hl] at hr0
          obtain rfl := Option.some.inj hr0
          have hN0 := hin0.1
          rw [intsN_len, Nat.mul_one] at hN0
          subst hN0
          obtain ⟨Au, cu', rfl⟩ := ownsRow_form hin0
          have hinH := Lib.hid hin0
          have hlH := Lib.hid hl
          have hll := grpT_len2 (by rw [hgssH.out]; exact hl)
          have hltu : gG < w1.heap.size := lu
          obtain ⟨M, hME⟩ : ∃ M, l.length = M := ⟨_, rfl⟩
          have hMH := Lib.hid hME
          rw [hME] at cu hinH hll
          have cuH := Lib.hid cu
          clear hin0 hl hu hME cu fu hownr
          have cg := (hbg.out.cell (p := ⟨gG, g, none⟩) lu).trans cuH.out
          have lg : gG < wr.heap.size := by omega
          go_wp2
          go_loopg [13] M (fun gk i wr => ∃ j : Nat, j + gk = M ∧ i = .int .i64 (j : Int) ∧ Hid (wr.rowIs w1.heap.size 2 n (fun x => .int .i64 (asg (ofG gss g) g l j x : Int))) ∧ Hid (Below w1.heap.size w1 wr))
          case atStart => exact ⟨0, by omega, rfl, Lib.hid (by rw [asg_zero]; exact hnm.out), hbg⟩
          case round =>
            clear hnm hbg hszg cg lg
            obtain ⟨j, hj, rfl, hnm, hbg⟩ := hrel
            have hszg := hbg.out.size
            have cg := (hbg.out.cell (p := ⟨gG, g, none⟩) lu).trans cuH.out
            have lg : gG < wr.heap.size := by omega
            by_cases hjM : j < M
            · obtain ⟨gu, cu2, hvu⟩ : ∃ gu cu2, Value.slice Au M cu' = .slice (some ⟨gu, 0, none⟩) M cu2 := by
                rcases hinH.out.2 with ⟨_, h0⟩ | ⟨g', cap, cur, hv, _⟩
                · omega
                · exact ⟨g', cap, hv⟩
              injection hvu with hu1 hu2 hu3
              subst hu1; subst hu3
              obtain ⟨x, hx⟩ : ∃ x, l[j]? = some x := ⟨_, List.getElem?_eq_getElem (by rw [hMH.out]; exact hjM)⟩
              have hxn := grpT_lt (by rw [hgssH.out]; exact hlH.out) hx
              have lgu := (hinH.out.lt gu rfl).2
              have cx := (hbg.out.cell (p := ⟨gu, j, none⟩) lgu).trans ((hinH.out.cellAt j (by omega)).trans (intsN_get hx))
              have lgu2 : gu < wr.heap.size := by omega
              have cn := hnm.out.cell (i := x) hxn
              have fn := hnm.out.frozen x
              have ln := hnm.out.lt
              have has := Lib.hid (asg_succ (f := ofG gss g) (g := g) hx)
              clear hx hu2
              go_wp2
              go_roundg (M - (j + 1))
              case measure => omega
              case rel =>
                refine ⟨j + 1, by omega, by go_num, Lib.hid ?_, Lib.hid (hbg.out.setCell (p := ⟨w1.heap.size, x, none⟩) (Nat.le_refl _) _)⟩
                have h3 := hnm.out.set x (.int .i64 (g : Int))
                rw [has.out]
                refine h3.congr ?_
                intro i hi
                by_cases hix : i = x
                · simp [hix]
                · simp [hix]
            · obtain rfl : j = M := by omega
              have hof := Lib.hid (ofG_succ hlH.out)
              go_wp2
              go_roundg (K - (g + 1))
              case measure => omega
              case rel =>
                exact ⟨g + 1, by omega, by go_num, Lib.hid (by rw [hof.out, hMH.out]; exact hnm.out), hbg⟩
        · obtain rfl : g = K := by omega
          obtain ⟨f, hf⟩ : ∃ f, ofG gss g = f := ⟨_, rfl⟩
          rw [hf] at hnm
          have hfn := Lib.hid (show nameT n bs t = f by unfold nameT; rw [hgssH.out, hKH.out, hf])
          clear hf hownr
          obtain ⟨wn, rfl⟩ : ∃ wn : World, wn = wr := ⟨_, rfl⟩
          have hbn := Lib.hid (hbw.out.trans ((hb1H.out.trans (hbg.out.mono hs1)).mono hsz))
          have hsn := hbn.out.size
          have hfle := Lib.hid (nameT_le n bs t)
          go_wp2
          go_loopg [15, 14] k (fun gk i v wr => ∃ j : Nat, j + gk = k ∧ i = .int .i64 (j : Int) ∧ Hid (wr.ownsRow wn.heap.size 100 3 v (ctrS f bs j).length (bdCells (ctrS f bs j))) ∧ Hid (Below wn.heap.size wn wr))
          case atStart => exact ⟨0, by omega, rfl, Lib.hid (by have := World.ownsRow_lit (base := wn.heap.size) (e := 100) (size := 3) wn #[] 0 (Nat.le_refl _) (by decide) rfl; simpa [ctrS, bdCells] using this), Lib.hid (bl_al (bl_refl _) _)⟩
          case round =>
            obtain ⟨j, hj, rfl, hrw, hbr⟩ := hrel
            have hszr := hbr.out.size
            obtain ⟨A3, c3, rfl⟩ := ownsRow_form hrw.out
            by_cases hjk : j < k
            · have hBw := (hBH.out.below RBd.stable hbn.out).below RBd.stable hbr.out
              obtain ⟨bb, ob, rfl, hbb, hbc⟩ := hBw.ptr (by omega)
              obtain ⟨e, he⟩ := hBw.get hjk
              obtain ⟨e0, e1, e2⟩ := hbc j e he
              have hea := hbH.out.a j e he
              have heb := hbH.out.b j e he
              have hcl := ctrS_len f bs j
              obtain ⟨L, hL⟩ : ∃ L, (ctrS f bs j).length = L := ⟨_, rfl⟩
              rw [hL] at hrw hcl ⊢
              have hLH := Lib.hid hL
              have heH := Lib.hid he
              have ln := hnm.out.lt
              have ca := (hbr.out.cell (p := ⟨w1.heap.size, e.a, none⟩) ln).trans (hnm.out.cell (i := e.a) hea)
              have cb := (hbr.out.cell (p := ⟨w1.heap.size, e.b, none⟩) ln).trans (hnm.out.cell (i := e.b) heb)
              have lnr : w1.heap.size < wr.heap.size := by omega
              have hla := hfle.out e.a
              have hlb := hfle.out e.b
              rw [hfn.out] at hla hlb
              obtain ⟨la, hlaE⟩ : ∃ la, f e.a = la := ⟨_, rfl⟩
              obtain ⟨lb, hlbE⟩ : ∃ lb, f e.b = lb := ⟨_, rfl⟩
              rw [hlaE] at ca hla
              rw [hlbE] at cb hlb
              have hlaH := Lib.hid hlaE
              have hlbH := Lib.hid hlbE
              clear hbc he hBw hL hlaE hlbE
              by_cases hll : la = lb
              · subst hll
                have hno := Lib.hid (ctrS_no (f := f) heH.out (by rw [hlaH.out, hlbH.out]))
                go_wp2
                go_roundg (k - (j + 1))
                case measure => omega
                case rel => exact ⟨j + 1, by omega, by go_num, Lib.hid (by rw [hno.out, hLH.out]; exact hrw.out), hbr⟩
              · have hyes := Lib.hid (ctrS_yes (f := f) heH.out (by rw [hlaH.out, hlbH.out]; exact hll))
                have hlld : ((la : Int) == (lb : Int)) = false := by simp; omega
                obtain ⟨mn, hmn⟩ : ∃ mn, min la lb = mn := ⟨_, rfl⟩
                obtain ⟨mx, hmx⟩ : ∃ mx, max la lb = mx := ⟨_, rfl⟩
                have hmnH := Lib.hid hmn
                have hmxH := Lib.hid hmx
                clear hmn hmx
                go_wp2
                refine wp_region_ord [(0, .q), (1, .q), (2, .q), (4, .q), (5, .q), (7, .q), (8, .q), (9, .q), (10, .q), (11, .q), (3, .g), (6, .g), (12, .q), (13, .g), (14, .b), (15, .q)] (by kernel_rfl) (by kernel_rfl) ?_
                simp only [pick, List.filterMap_cons, List.filterMap_nil, List.getElem?_toArray, List.getElem?_cons_zero, List.getElem?_cons_succ, Option.map_some]
                repeat (first
                  | ((with_reducible refine wpD_p (fun K hK => ?_)); go_simp; refine hK _ ?_; clear hK K)
                  | ((with_reducible refine wpD_q (fun K hK => ?_)); go_simp; (first | refine hK _ ?_ | (go_bits; refine hK _ ?_) | (go_bits; go_simp; refine hK _ ?_)); clear hK K)
                  | ((with_reducible refine wpD_g (fun K hK => ?_)); go_simp; refine hK _ _ ?_; clear hK K)
                  | ((with_reducible refine wpD_g (fun K hK => ?_)); go_simp; refine ⟨Grew.of_alloc _, hK _ _ ?_⟩; clear hK K)
                  | ((with_reducible refine wpD_g (fun K hK => ?_)); go_simp; go_at_call 70; refine (l00Min_at la lb _ _ hmnH.out).mono ?_; rintro e _ ⟨rfl, rfl⟩; refine ⟨_, rfl, Below.refl _ _, hK _ _ ?_⟩; clear hK K)
                  | ((with_reducible refine wpD_g (fun K hK => ?_)); go_simp; go_at_call 71; refine (l00Max_at la lb _ _ hmxH.out).mono ?_; rintro e _ ⟨rfl, rfl⟩; refine ⟨_, rfl, Below.refl _ _, hK _ _ ?_⟩; clear hK K))
                have hb9 : Below wr.heap.size wr (wr.alloc (Obj.cells #[.int .i64 (mn : Int), .int .i64 (mx : Int), .int .i64 e.s] 100)).drew := by exact bel_
                have hb9H := Lib.hid hb9
                clear hb9
                refine wpD_append rfl _ _ 66 rfl wn.heap.size 100 i0 (.agg #[.int .i64 0, .int .i64 0, .int .i64 0]) 3 24 Tryz.underlying66 hi hz0 hz1 hz2 rfl (by decide) (.slice A3 L c3) L (bdCells (ctrS f bs j)) (by go_simp) (ownsRow_below hrw.out hb9H.out) ⟨wr.heap.size, 0, none⟩ 1 1 [.int .i64 (mn : Int), .int .i64 (mx : Int), .int .i64 e.s] (by go_simp) rfl ?hnews (fun x hx => by simp at hx; rcases hx with rfl | rfl | rfl <;> rfl) (by unfold maxLen; omega) (by omega) (by simp; omega) ?_
                case hnews =>
                  have := cell_three_new wr (.int .i64 (mn : Int)) (.int .i64 (mx : Int)) (.int .i64 e.s) 100
                  simpa using this
                intro v5 w5 hown5 hgrow5
                obtain ⟨A5, c5, rfl⟩ := ownsRow_form hown5
                have hown5H := Lib.hid hown5
                have hbw5 : Below wn.heap.size wn w5 := (hbr.out.trans (hb9H.out.mono hszr)).grown hgrow5 (by simp; omega) (fun b e => (hrw.out.lt b e).1)
                have hbw5H := Lib.hid hbw5
                clear hown5 hgrow5 hbw5
                repeat (first | ((with_reducible refine wpD_p (fun K hK => ?_)); go_simp; refine hK _ ?_; clear hK K) | ((with_reducible refine wpD_q (fun K hK => ?_)); go_simp; (first | refine hK _ ?_ | (go_bits; refine hK _ ?_) | (go_bits; go_simp; refine hK _ ?_)); clear hK K))
                with_reducible refine wpD_nil ?_
                go_wp2
                go_roundg (k - (j + 1))
                case measure => omega
                case rel =>
                  refine ⟨j + 1, by omega, by go_num, Lib.hid ?_, hbw5H⟩
                  rw [hyes.out, bdCells_snoc, List.length_append, hLH.out, hlaH.out, hlbH.out, hmnH.out, hmxH.out]
                  exact hown5H.out
            · obtain rfl : j = k := by omega
              go_wp2
              go_ret2
              refine ⟨.slice A3 (ctrS f bs j).length c3, by rw [hgssH.out, hKH.out]; rfl, ?_, hbn.out.trans (hbr.out.mono hsn)⟩
              unfold shrS
              rw [hml.out, hfn.out]
              exact ownsRow_base hrw.out hsn
end Go.Proofs.YtmpmokefgdjnkaaGreat
/- Walks: the program's bonds between groups. -/


namespace Go.Proofs.YtmpmokefgdjnkaaGreat
open Go.RowKit Go.Shelf
attribute [local go_sem] BelowBy.cell BelowBy.cell_drew stillUpon givesUpon BelowBy.cell_drew2 BelowBy.cell_drew3

theorem keep_strong (t : Int) (bs : List Bd) (k : Nat) : keepL t bs k = strongL t bs k := by
  unfold keepL strongL
  congr 1
  funext b
  unfold weakB
  by_cases h : b.s < t
  · have : ¬ t ≤ b.s := by omega
    simp [h, this]
  · have : t ≤ b.s := by omega
    simp [h, this]
set_option maxRecDepth 100000 in
set_option maxHeartbeats 4000000 in
theorem contracted_any (base n : Nat) (v : Value) (bs : List Bd) (t : Int) (w : World) (hrow : w.ownsRow base 100 3 v bs.length (bdCells bs)) (hb : BondsOk n bs) (hn : n ≤ 100000) (hm : bs.length ≤ 100000) :
    Calls Tryz.prog 135 #[.int .i64 (n : Int), v, .int .i64 t] w (ShrRes w (grpT n bs t).length (shrI n bs t)) := by
  obtain ⟨i0, hi, hz0, hz1, hz2⟩ := info_parts infoBond
  have hmk := fun W => run_makeN (P := Tryz.prog) 58 2 _ 1 8 Tryz.underlying58 infoI n (by omega) (by omega) W
  obtain ⟨B, c, rfl, hB⟩ := rd_of_row hrow
  have hBH := Lib.hid hB
  have hrH := Lib.hid hrow
  have hbH := Lib.hid hb
  obtain ⟨m, hmE⟩ : ∃ m, bs.length = m := ⟨_, rfl⟩
  have hml := Lib.hid hmE
  clear hB hb hrow
  rw [hmE] at hrH hBH hm ⊢
  clear hmE
  go_enter Tryz.func135, Tryz.ntmps135
  go_wp2_with fail
  refine (CloneB_any base _ bs _ (by rw [hml.out]; exact hrH.out.alloc _) (by rw [hml.out]; exact hm)).mono ?_
  rintro e w1 ⟨v1, rfl, hrow1, hb1⟩
  have hz1' : (w.alloc (Obj.cells #[.int .i64 t] 2)).heap.size = w.heap.size + 1 := by simp
  rw [hz1'] at hrow1
  have hs1 : w.heap.size + 1 ≤ w1.heap.size := by have := hb1.size; simp at this; omega
  have x0 : w1.cell? ⟨w.heap.size, 0, none⟩ = some (.int .i64 t) := (hb1.cell (p := ⟨w.heap.size, 0, none⟩) (by simp)).trans (by go_simp)
  have hB1 := Lib.hid (show Below w.heap.size w w1 by exact bel_)
  have hrow1H := Lib.hid hrow1
  clear hrow1 hb1 hz1'
  go_wp2_with fail
  refine (DeleteFuncB_any (w.heap.size + 1) w.heap.size t v1 bs _ hrow1H.out (by rw [hml.out]; exact hm) x0 (by omega) hs1).mono ?_
  rw [keep_strong]
  rintro e w2 ⟨A2, c2, rfl, hrd, hb2⟩
  have hrdH := Lib.hid hrd
  have hb2H := Lib.hid (hB1.out.trans (hb2.mono (by omega)))
  have hsl := strongL_len t bs bs.length
  rw [hml.out] at hsl
  have hin := Lib.hid (show ∀ (j : Nat) (e : Bd), (strongL t bs bs.length)[j]? = some e → e.a < n ∧ e.b < n from fun j e h => by obtain ⟨q, hq⟩ := strongL_mem h; exact ⟨hbH.out.a q e hq, hbH.out.b q e hq⟩)
  have hgr := Lib.hid (show grpT n bs t = groupsL (labOf (strongL t bs bs.length) (strongL t bs bs.length).length) n from rfl)
  have hs2 := hb2H.out.size
  clear hrd hb2 x0
  go_wp2_with fail
  refine (groupsBy_any n A2 _ c2 (strongL t bs bs.length) _ hrdH.out hn (by rw [hml.out]; omega) hin.out).mono ?_
  rw [← hgr.out]
  rintro e w3 ⟨vG, us, rfl, hown, hb3⟩
  have hownH := Lib.hid hown
  have hb3H := Lib.hid (hb2H.out.trans (hb3.mono hs2))
  have hs3 := hb3H.out.size
  obtain ⟨AG, cG, rfl⟩ := hown.form hown.len
  clear hown hb3
  have hK := grpT_len n bs t
  obtain ⟨gss, hgss⟩ : ∃ gss, grpT n bs t = gss := ⟨_, rfl⟩
  have hgssH := Lib.hid hgss
  obtain ⟨K, hKE⟩ : ∃ K, gss.length = K := ⟨_, rfl⟩
  have hKH := Lib.hid hKE
  rw [hgss] at hownH hK ⊢
  have husl := Lib.hid (show us.length = K by rw [hownH.out.len, List.length_map, hKE])
  rw [List.length_map, hKE] at hownH
  try rw [List.length_map]
  rw [hKE]
  rw [hKE] at hK
  clear hgss hKE
  go_wp2
  go_loopg [27] K (fun gk i wr => ∃ g : Nat, g + gk = K ∧ i = .int .i64 (g : Int) ∧ Hid (wr.rowIs w3.heap.size 2 n (fun x => .int .i64 (ofG gss g x : Int))) ∧ Hid (Below w3.heap.size w3 wr))
  case atStart => exact ⟨0, by omega, rfl, Lib.hid (by have := World.rowIs_made w3 (.int .i64 0) n 2; simpa [ofG] using this), Lib.hid (bl_al (bl_refl _) _)⟩
  case round =>
    clear hmk
    obtain ⟨g, hg, rfl, hnm, hbg⟩ := hrel
    have hszg := hbg.out.size
    have hownr := hownH.out.below hbg.out
    by_cases hgK : g < K
    · obtain ⟨gG, cG', hvG⟩ := hownr.formPos husl.out (by omega)
      injection hvG with hv1 hv2 hv3
      subst hv1; subst hv3
      obtain ⟨u, hu⟩ : ∃ u, us[g]? = some u := ⟨_, List.getElem?_eq_getElem (by rw [husl.out]; exact hgK)⟩
      obtain ⟨l, hl⟩ : ∃ l, gss[g]? = some l := ⟨_, List.getElem?_eq_getElem (by rw [hKH.out]; exact hgK)⟩
      obtain ⟨cu, fu, lu⟩ := hownH.out.cellAt husl.out hu
      obtain ⟨N0, r0, hr0, hin0⟩ := hownH.out.get hu
      rw [List.getElem?_map, hl] at hr0
      obtain rfl := Option.some.inj hr0
      have hN0 := hin0.1
      rw [intsN_len, Nat.mul_one] at hN0
      subst hN0
      obtain ⟨Au, cu', rfl⟩ := ownsRow_form hin0
      have hinH := Lib.hid hin0
      have hlH := Lib.hid hl
      have hll := grpT_len2 (by rw [hgssH.out]; exact hl)
      obtain ⟨M, hME⟩ : ∃ M, l.length = M := ⟨_, rfl⟩
      have hMH := Lib.hid hME
      rw [hME] at cu hinH hll
      have cg := (hbg.out.cell (p := ⟨gG, g, none⟩) lu).trans cu
      have lg : gG < wr.heap.size := by omega
      clear hin0 hl hu hME cu fu hownr
      go_wp2
      go_loopg [34] M (fun gk i wr => ∃ j : Nat, j + gk = M ∧ i = .int .i64 (j : Int) ∧ Hid (wr.rowIs w3.heap.size 2 n (fun x => .int .i64 (asg (ofG gss g) g l j x : Int))) ∧ Hid (Below w3.heap.size w3 wr))
      case atStart => exact ⟨0, by omega, rfl, Lib.hid (by rw [asg_zero]; exact hnm.out), hbg⟩
      case round =>
        clear hnm hbg hszg cg lg
        obtain ⟨j, hj, rfl, hnm, hbg⟩ := hrel
        have hszg := hbg.out.size
        by_cases hjM : j < M
        · obtain ⟨gu, cu2, hvu⟩ : ∃ gu cu2, Value.slice Au M cu' = .slice (some ⟨gu, 0, none⟩) M cu2 := by
            rcases hinH.out.2 with ⟨_, h0⟩ | ⟨g', cap, cur, hv, _⟩
            · omega
            · exact ⟨g', cap, hv⟩
          injection hvu with hu1 hu2 hu3
          subst hu1; subst hu3
          obtain ⟨x, hx⟩ : ∃ x, l[j]? = some x := ⟨_, List.getElem?_eq_getElem (by rw [hMH.out]; exact hjM)⟩
          have hxn := grpT_lt (by rw [hgssH.out]; exact hlH.out) hx
          have lgu := (hinH.out.lt gu rfl).2
          have cx := (hbg.out.cell (p := ⟨gu, j, none⟩) lgu).trans ((hinH.out.cellAt j (by omega)).trans (intsN_get hx))
          have lgu2 : gu < wr.heap.size := by omega
          have cn := hnm.out.cell (i := x) hxn
          have fn := hnm.out.frozen x
          have ln := hnm.out.lt
          have has := Lib.hid (asg_succ (f := ofG gss g) (g := g) hx)
          clear hx hu2
          go_wp2
          go_roundg (M - (j + 1))
          case measure => omega
          case rel =>
            refine ⟨j + 1, by omega, by go_num, Lib.hid ?_, Lib.hid (hbg.out.setCell (p := ⟨w3.heap.size, x, none⟩) (Nat.le_refl _) _)⟩
            have h3 := hnm.out.set x (.int .i64 (g : Int))
            rw [has.out]
            refine h3.congr ?_
            intro i hi
            by_cases hix : i = x
            · simp [hix]
            · simp [hix]
        · obtain rfl : j = M := by omega
          have hof := Lib.hid (ofG_succ hlH.out)
          go_wp2
          go_roundg (K - (g + 1))
          case measure => omega
          case rel =>
            exact ⟨g + 1, by omega, by go_num, Lib.hid (by rw [hof.out, hMH.out]; exact hnm.out), hbg⟩
    · obtain rfl : g = K := by omega
      obtain ⟨f, hf⟩ : ∃ f, ofG gss g = f := ⟨_, rfl⟩
      rw [hf] at hnm
      have hfn := Lib.hid (show nameT n bs t = f by unfold nameT; rw [hgssH.out, hKH.out, hf])
      clear hf hownr
      obtain ⟨wn, rfl⟩ : ∃ wn : World, wn = wr := ⟨_, rfl⟩
      have hbn := Lib.hid (hb3H.out.trans (hbg.out.mono hs3))
      have hsn := hbn.out.size
      have hfle := Lib.hid (nameT_le n bs t)
      go_wp2
      go_loopg [46, 14] m (fun gk i v wr => ∃ j : Nat, j + gk = m ∧ i = .int .i64 (j : Int) ∧ Hid (wr.ownsRow wn.heap.size 100 3 v (ctrI f bs j).length (bdCells (ctrI f bs j))) ∧ Hid (Below wn.heap.size wn wr))
      case atStart => exact ⟨0, by omega, rfl, Lib.hid (World.ownsRow_nil _ _ _ _), Lib.hid (bl_refl _)⟩
      case round =>
        obtain ⟨j, hj, rfl, hrw, hbr⟩ := hrel
        have hszr := hbr.out.size
        obtain ⟨A3, c3, rfl⟩ := ownsRow_form hrw.out
        by_cases hjk : j < m
        · have hBw := (hBH.out.below RBd.stable hbn.out).below RBd.stable hbr.out
          obtain ⟨bb, ob, rfl, hbb, hbc⟩ := hBw.ptr (by omega)
          obtain ⟨e, he⟩ := hBw.get hjk
          obtain ⟨e0, e1, e2⟩ := hbc j e he
          have hea := hbH.out.a j e he
          have heb := hbH.out.b j e he
          have hcl := ctrI_len f bs j
          obtain ⟨L, hL⟩ : ∃ L, (ctrI f bs j).length = L := ⟨_, rfl⟩
          rw [hL] at hrw hcl ⊢
          have hLH := Lib.hid hL
          have heH := Lib.hid he
          have ln := hnm.out.lt
          have ca := (hbr.out.cell (p := ⟨w3.heap.size, e.a, none⟩) ln).trans (hnm.out.cell (i := e.a) hea)
          have cb := (hbr.out.cell (p := ⟨w3.heap.size, e.b, none⟩) ln).trans (hnm.out.cell (i := e.b) heb)
          have lnr : w3.heap.size < wr.heap.size := by omega
          have hla := hfle.out e.a
          have hlb := hfle.out e.b
          rw [hfn.out] at hla hlb
          obtain ⟨la, hlaE⟩ : ∃ la, f e.a = la := ⟨_, rfl⟩
          obtain ⟨lb, hlbE⟩ : ∃ lb, f e.b = lb := ⟨_, rfl⟩
          rw [hlaE] at ca hla
          rw [hlbE] at cb hlb
          have hlaH := Lib.hid hlaE
          have hlbH := Lib.hid hlbE
          clear hbc he hBw hL hlaE hlbE
          by_cases hll : la = lb
          · subst hll
            have hno := Lib.hid (ctrI_no (f := f) heH.out (by rw [hlaH.out, hlbH.out]))
            go_wp2
            refine wp_region_ord [(0, .q), (1, .q), (2, .q), (3, .q), (4, .q), (5, .q), (6, .q), (7, .q), (8, .q), (9, .q), (10, .q)] (by kernel_rfl) (by kernel_rfl) ?_
            simp only [pick, List.filterMap_cons, List.filterMap_nil, List.getElem?_toArray, List.getElem?_cons_zero, List.getElem?_cons_succ, Option.map_some]
            repeat (first | ((with_reducible refine wpD_p (fun K hK => ?_)); go_simp; refine hK _ ?_; clear hK K) | ((with_reducible refine wpD_q (fun K hK => ?_)); go_simp; (first | refine hK _ ?_ | (go_bits; refine hK _ ?_) | (go_bits; go_simp; refine hK _ ?_)); clear hK K))
            with_reducible refine wpD_nil ?_
            go_wp2
            go_roundg (m - (j + 1))
            case measure => omega
            case rel => exact ⟨j + 1, by omega, by go_num, Lib.hid (by rw [hno.out, hLH.out]; exact ownsRow_below hrw.out (by exact bel_)), Lib.hid (hbr.out.trans (Below.mono (by exact bel_) hszr))⟩
          · have hyes := Lib.hid (ctrI_yes (f := f) heH.out (by rw [hlaH.out, hlbH.out]; exact hll))
            have hlld : ((la : Int) == (lb : Int)) = false := by simp; omega
            go_wp2
            refine wp_region_ord [(0, .q), (1, .q), (2, .q), (3, .q), (4, .q), (5, .q), (6, .q), (7, .q), (8, .q), (9, .q), (10, .q)] (by kernel_rfl) (by kernel_rfl) ?_
            simp only [pick, List.filterMap_cons, List.filterMap_nil, List.getElem?_toArray, List.getElem?_cons_zero, List.getElem?_cons_succ, Option.map_some]
            repeat (first | ((with_reducible refine wpD_p (fun K hK => ?_)); go_simp; refine hK _ ?_; clear hK K) | ((with_reducible refine wpD_q (fun K hK => ?_)); go_simp; (first | refine hK _ ?_ | (go_bits; refine hK _ ?_) | (go_bits; go_simp; refine hK _ ?_)); clear hK K))
            with_reducible refine wpD_nil ?_
            go_wp2
            refine wp_region_ord [(0, .q), (1, .q), (2, .q), (3, .q), (4, .q), (5, .q), (6, .q), (7, .q), (8, .q), (9, .q), (10, .q), (11, .q), (12, .q), (13, .q), (14, .g), (15, .b), (16, .q)] (by kernel_rfl) (by kernel_rfl) ?_
            simp only [pick, List.filterMap_cons, List.filterMap_nil, List.getElem?_toArray, List.getElem?_cons_zero, List.getElem?_cons_succ, Option.map_some]
            repeat (first | ((with_reducible refine wpD_p (fun K hK => ?_)); go_simp; refine hK _ ?_; clear hK K) | ((with_reducible refine wpD_q (fun K hK => ?_)); go_simp; (first | refine hK _ ?_ | (go_bits; refine hK _ ?_) | (go_bits; go_simp; refine hK _ ?_)); clear hK K))
            with_reducible refine wpD_g (fun K hK => ?_)
            go_simp
            refine ⟨Grew.of_alloc _, hK _ _ ?_⟩
            clear hK K
            have hb9 : Below wr.heap.size wr (((wr.alloc (Obj.cells #[.int .i64 (e.a : Int), .int .i64 (e.b : Int), .int .i64 e.s] 100)).drew.alloc (Obj.cells #[.int .i64 (la : Int), .int .i64 (lb : Int), .int .i64 e.s] 100)).drew) := by exact bel_
            have hb9H := Lib.hid hb9
            clear hb9
            refine wpD_append rfl _ _ 66 rfl wn.heap.size 100 i0 (.agg #[.int .i64 0, .int .i64 0, .int .i64 0]) 3 24 Tryz.underlying66 hi hz0 hz1 hz2 rfl (by decide) (.slice A3 L c3) L (bdCells (ctrI f bs j)) (by go_simp) (ownsRow_below hrw.out hb9H.out) ⟨wr.heap.size + 1, 0, none⟩ 1 1 [.int .i64 (la : Int), .int .i64 (lb : Int), .int .i64 e.s] (by go_simp) rfl ?hnews (fun x hx => by simp at hx; rcases hx with rfl | rfl | rfl <;> rfl) (by unfold maxLen; omega) (by omega) (by simp; omega) ?_
            case hnews =>
              have := cell_three_new (wr.alloc (Obj.cells #[.int .i64 (e.a : Int), .int .i64 (e.b : Int), .int .i64 e.s] 100)) (.int .i64 (la : Int)) (.int .i64 (lb : Int)) (.int .i64 e.s) 100
              simpa using this
            intro v5 w5 hown5 hgrow5
            obtain ⟨A5, c5, rfl⟩ := ownsRow_form hown5
            have hown5H := Lib.hid hown5
            have hbw5 : Below wn.heap.size wn w5 := (hbr.out.trans (hb9H.out.mono hszr)).grown hgrow5 (by simp; omega) (fun b e => (hrw.out.lt b e).1)
            have hbw5H := Lib.hid hbw5
            clear hown5 hgrow5 hbw5
            repeat (first | ((with_reducible refine wpD_p (fun K hK => ?_)); go_simp; refine hK _ ?_; clear hK K) | ((with_reducible refine wpD_q (fun K hK => ?_)); go_simp; (first | refine hK _ ?_ | (go_bits; refine hK _ ?_) | (go_bits; go_simp; refine hK _ ?_)); clear hK K))
            with_reducible refine wpD_nil ?_
            go_wp2
            go_roundg (m - (j + 1))
            case measure => omega
            case rel =>
              refine ⟨j + 1, by omega, by go_num, Lib.hid ?_, hbw5H⟩
              rw [hyes.out, bdCells_snoc, List.length_append, hLH.out, hlaH.out, hlbH.out]
              exact hown5H.out
        · obtain rfl : j = m := by omega
          go_wp2
          go_ret2
          refine ⟨.slice A3 (ctrI f bs j).length c3, by rw [hgssH.out, hKH.out]; rfl, ?_, hbn.out.trans (hbr.out.mono hsn)⟩
          unfold shrI
          rw [hml.out, hfn.out]
          exact ownsRow_base hrw.out hsn
end Go.Proofs.YtmpmokefgdjnkaaGreat
/- Walk: the reference's IsStable. -/

namespace Go.Proofs.YtmpmokefgdjnkaaGreat
open Go.RowKit Go.Shelf
attribute [local go_sem] BelowBy.cell BelowBy.cell_drew stillUpon givesUpon BelowBy.cell_drew2 BelowBy.cell_drew3

/-- a Boolean and a code -/
def BCodeRes (w : World) (r : Bool × Int) (e : Ending) (w' : World) : Prop := e = .returned (.tuple #[.bool r.1, .int .i64 r.2]) ∧ Below w.heap.size w w'
theorem BCodeRes.of {w w' : World} {r : Bool × Int} {b : Bool} {c : Int} (h : (b, c) = r) (hb : Below w.heap.size w w') : BCodeRes w r (.returned (.tuple #[.bool b, .int .i64 c])) w' := by
  subst h; exact ⟨rfl, hb⟩
def tempB (t : Int) : Bool := inB t 1 16
theorem tempB_true {t : Int} (h : tempB t = true) : ∃ k : Nat, t = k ∧ 1 ≤ k ∧ k ≤ 16 := by
  have : 1 ≤ t ∧ t ≤ 16 := by simpa [tempB, inB] using h
  exact ⟨t.toNat, by omega, by omega, by omega⟩
theorem l07Temperature_any (t : Int) (w : World) : Calls Tryz.prog 97 #[.int .i64 t] w fun e w' => e = .returned (.bool (tempB t)) ∧ w = w' := by
  go_enter Tryz.func97, Tryz.ntmps97
  go_wp2_with (go_at_call 102; refine (l00In_any _ _ _ _).mono ?_; rintro e _ ⟨rfl, rfl⟩)
  go_ret
  exact ⟨ret_bool rfl, rfl⟩
noncomputable def stabVR (gs : List Gl) (ts : List Ti) (xs : List Pl) (t : Int) : Bool × Int := stabR xs.length (bondsL gs ts xs) t.toNat
theorem stabR_full {n t : Nat} {bs : List Bd} (h : 64 < (grpT n bs t).length) : ((false, 4) : Bool × Int) = stabR n bs t := by unfold stabR; rw [if_pos h]
theorem stabR_few {n t : Nat} {bs : List Bd} (h : ¬ 64 < (grpT n bs t).length) (h2 : (grpT n bs t).length < 2) : ((true, 0) : Bool × Int) = stabR n bs t := by unfold stabR; rw [if_neg h, holdsB_few h2]
theorem stabR_is {n t : Nat} {bs : List Bd} (h : ¬ 64 < (grpT n bs t).length) : ((holdsB (grpT n bs t).length (shrI n bs t) t, 0) : Bool × Int) = stabR n bs t := by unfold stabR; rw [if_neg h]
theorem stabR_weak {n t : Nat} {bs : List Bd} (hb : BondsOk n bs) (h : ¬ 64 < (grpT n bs t).length) (h2 : ¬ (grpT n bs t).length < 2) : ((decide ((t : Int) ≤ (weakR (grpT n bs t).length (shrS n bs t)).1), 0) : Bool × Int) = stabR n bs t := by
  rw [← stabR_is h, ← holdsB_weak h2, holdsB_eq t (fun y => shr_flow hb (by omega) 0 y)]
set_option maxRecDepth 100000 in
set_option maxHeartbeats 2000000 in
theorem l07Stable_any {op opa : Nat} {p pa : Nat} {gs : List Gl} {ts : List Ti} {xs : List Pl} {w : World} (h : SAt w p op pa opa gs ts xs) (hV : Valid gs ts xs) (t : Nat) (ht : t ≤ 1000) :
    Calls Tryz.prog 98 #[.pointer (some ⟨p, op, none⟩), .pointer (some ⟨pa, opa, none⟩), .int .i64 (t : Int)] w (BCodeRes w (stabR xs.length (bondsL gs ts xs) t)) := by
  have hH := Lib.hid h
  have hlp := h.s.lt
  obtain ⟨lq, A, q, ca, cq, hA⟩ := h.a
  have hlen := hA.len
  have hbo := bondsOk hV
  have hbl := bondsL_len hV
  have hVl := hV.len
  rw [hlen] at hbo hVl ⊢
  have hboH := Lib.hid hbo
  clear h hA hbo
  generalize hbs : bondsL gs ts xs = bs at *
  have hbsH := Lib.hid hbs
  clear hbs
  have hok := Lib.hid (fun (h : 0 < (grpT q bs t).length) => ctrS_ok hboH.out (nameT_lt h) bs.length)
  have hsl := ctrS_len (nameT q bs t) bs bs.length
  have hgl := grpT_len q bs t
  go_enter Tryz.func98, Tryz.ntmps98
  go_wp2
  refine wp_region_ord [(0, .q), (1, .q), (2, .q), (3, .q), (4, .q), (5, .q), (6, .q), (8, .q), (7, .g), (9, .g), (10, .q), (11, .q), (12, .q), (13, .q), (14, .q)] (by kernel_rfl) (by kernel_rfl) ?_
  simp only [pick, List.filterMap_cons, List.filterMap_nil, List.getElem?_toArray, List.getElem?_cons_zero, List.getElem?_cons_succ, Option.map_some]
  repeat (first | ((with_reducible refine wpD_p (fun K hK => ?_)); go_simp; refine hK _ ?_; clear hK K) | ((with_reducible refine wpD_q (fun K hK => ?_)); go_simp; (first | refine hK _ ?_ | (go_bits; refine hK _ ?_) | (go_bits; go_simp; refine hK _ ?_)); clear hK K))
  with_reducible refine wpD_g (fun K hK => ?_)
  go_simp
  refine ((hH.out.below (by exact bel_)).bonds hV).mono ?_
  rw [hbsH.out]
  rintro e w2 ⟨v, rfl, hrow, hb2⟩
  obtain ⟨B, cb, rfl, hB⟩ := rd_of_row hrow
  refine ⟨_, rfl, hb2, hK _ _ ?_⟩
  clear hK K hrow
  have hBH := Lib.hid hB
  clear hB
  repeat (first | ((with_reducible refine wpD_p (fun K hK => ?_)); go_simp; refine hK _ ?_; clear hK K) | ((with_reducible refine wpD_q (fun K hK => ?_)); go_simp; (first | refine hK _ ?_ | (go_bits; refine hK _ ?_) | (go_bits; go_simp; refine hK _ ?_)); clear hK K))
  with_reducible refine wpD_g (fun K hK => ?_)
  go_simp
  refine (l07Shrunk_any q B _ cb bs t _ hBH.out hboH.out (by omega) (by omega)).mono ?_
  rintro e w3 ⟨v3, rfl, hrow3, hb3⟩
  obtain ⟨B3, c3, rfl, hB3⟩ := rd_of_row hrow3
  refine ⟨_, rfl, hb3, hK _ _ ?_⟩
  have hB3H := Lib.hid hB3
  clear hK K hrow3 hB3
  repeat (first | ((with_reducible refine wpD_p (fun K hK => ?_)); go_simp; refine hK _ ?_; clear hK K) | ((with_reducible refine wpD_q (fun K hK => ?_)); go_simp; (first | refine hK _ ?_ | (go_bits; refine hK _ ?_) | (go_bits; go_simp; refine hK _ ?_)); clear hK K))
  with_reducible refine wpD_nil ?_
  obtain ⟨K, hK⟩ : ∃ K, (grpT q bs t).length = K := ⟨_, rfl⟩
  have hfull := Lib.hid (stabR_full (n := q) (t := t) (bs := bs))
  have hfew := Lib.hid (stabR_few (n := q) (t := t) (bs := bs))
  have hweak := Lib.hid (stabR_weak (n := q) (t := t) hboH.out)
  have hbb : Below w.heap.size w w3 := by exact bel_
  have hbbH := Lib.hid hbb
  have hs3 := hbb.size
  rw [hK] at hfull hfew hweak hok hgl ⊢
  clear hK hbb hb2 hb3
  by_cases h64 : 64 < K
  · have h64H := Lib.hid h64
    have hi64 : (64 : Int) < (K : Int) := by omega
    go_wp2
    go_ret2
    exact BCodeRes.of (hfull.out h64H.out) hbbH.out
  · have h64H := Lib.hid h64
    have hi64 : ¬ (64 : Int) < (K : Int) := by omega
    by_cases h2 : K < 2
    · have h2H := Lib.hid h2
      have hi2 : (K : Int) < 2 := by omega
      go_wp2
      go_ret2
      exact BCodeRes.of (hfew.out h64H.out h2H.out) hbbH.out
    · have h2H := Lib.hid h2
      have hi2 : ¬ (K : Int) < 2 := by omega
      have hwk := Lib.hid (hweak.out h64H.out h2H.out)
      have hsl2 : (shrS q bs t).length ≤ bs.length := hsl
      go_wp2_with (go_at_call 122; refine (l07Weakest_any K B3 _ c3 (shrS q bs t) _ hB3H.out (hok.out (by omega)) (by omega) (by omega) (by omega)).mono ?_; rintro e w4 ⟨v4, rfl, _, hb4⟩; have hb4H := Lib.hid hb4; clear hb4)
      go_ret2
      exact BCodeRes.of hwk.out (hbbH.out.trans (hb4H.out.mono hs3))
noncomputable def isStabR (gs : List Gl) (ts : List Ti) (xs : List Pl) (t : Int) : Bool × Int := if validAsmB gs ts xs = false then (false, 1) else if tempB t = false then (false, 2) else stabVR gs ts xs t
theorem isStabR_no {gs : List Gl} {ts : List Ti} {xs : List Pl} {t : Int} (h : validAsmB gs ts xs = false) : ((false, 1) : Bool × Int) = isStabR gs ts xs t := by unfold isStabR; rw [if_pos h]
theorem isStabR_range {gs : List Gl} {ts : List Ti} {xs : List Pl} {t : Int} (h : validAsmB gs ts xs = true) (h2 : tempB t = false) : ((false, 2) : Bool × Int) = isStabR gs ts xs t := by unfold isStabR; rw [if_neg (by rw [h]; decide), if_pos h2]
theorem isStabR_yes {gs : List Gl} {ts : List Ti} {xs : List Pl} {t : Nat} (h : validAsmB gs ts xs = true) (h2 : tempB t = true) : stabR xs.length (bondsL gs ts xs) t = isStabR gs ts xs t := by unfold isStabR; rw [if_neg (by rw [h]; decide), if_neg (by rw [h2]; decide)]; rfl
end Go.Proofs.YtmpmokefgdjnkaaGreat
/- Walk: the program's IsStable. -/



namespace Go.Proofs.YtmpmokefgdjnkaaGreat
open Go.RowKit Go.Shelf
attribute [local go_sem] BelowBy.cell BelowBy.cell_drew stillUpon givesUpon BelowBy.cell_drew2 BelowBy.cell_drew3

theorem send0_any (base p n y M : Nat) (bs : List Bd) (vR vF : Value) (uR uF : List Value) (w : World) (h : Net w base p n (roomM bs bs.length) zeroM vR vF uR uF) (hb : BondsOk n bs) (hy : y < n) (hy0 : 0 < y) (hn : n ≤ 100000) (hm : bs.length ≤ 1000000) (hM : M ≤ 1099511627776) (hbase : base ≤ w.heap.size) :
    Calls Tryz.prog 146 #[.pointer (some ⟨p, 0, none⟩), .int .i64 0, .int .i64 (y : Int), .int .i64 (M : Int)] w (SendRes w base p n bs 0 y M vR vF uR uF) := send_any base p n 0 y M bs vR vF uR uF w h hb (by omega) hy (by omega) hn hm hM hbase
theorem isTemperature_any (t : Int) (w : World) : Calls Tryz.prog 126 #[.int .i64 t] w fun e w' => e = .returned (.bool (tempB t)) ∧ w = w' := by
  go_enter Tryz.func126, Tryz.ntmps126
  go_wp2_with (go_at_call 115; refine (within_any _ _ _ _).mono ?_; rintro e w' ⟨rfl, rfl⟩)
  go_ret
  exact ⟨ret_bool rfl, rfl⟩
set_option maxRecDepth 100000 in
set_option maxHeartbeats 2000000 in
theorem holds_any (n t : Nat) (B : Option Addr) (m c : Nat) (bs : List Bd) (w : World) (hB : RdSl 3 RBd w B m bs) (hb : 1 < n → BondsOk n bs) (hn : n ≤ 100000) (hm : m ≤ 100000) (ht : t ≤ 1000) :
    Calls Tryz.prog 136 #[.int .i64 (n : Int), .slice B m c, .int .i64 (t : Int)] w fun e w' => e = .returned (.bool (holdsB n bs t)) ∧ Below w.heap.size w w' := by
  have hBH := Lib.hid hB
  have hbH := Lib.hid hb
  have hml := Lib.hid hB.len
  clear hB hb
  obtain ⟨r, hrE⟩ : ∃ r, holdsB n bs t = r := ⟨_, rfl⟩
  rw [hrE]
  have hrH := Lib.hid hrE
  clear hrE
  go_enter Tryz.func136, Tryz.ntmps136
  go_wp2
  go_loopg [7] n (fun gk yv wr => ∃ y : Nat, (y + gk = n + 1) ∧ 1 ≤ y ∧ yv = .int .i64 (y : Int) ∧ Hid (∀ j, j < y - 1 → t ≤ flowV n bs 0 (j + 1)) ∧ Hid (Below w.heap.size w wr))
  case atStart => exact ⟨1, by omega, by omega, rfl, Lib.hid (fun j hj => by omega), Lib.hid (bl_refl _)⟩
  case round =>
    obtain ⟨y, hy, hy1, rfl, hall, hbw⟩ := hrel
    have hsz := hbw.out.size
    by_cases hyn : y < n
    · have hb1 := hbH.out (by omega)
      have hbo := Lib.hid hb1
      have hB1 := Lib.hid (hBH.out.below RBd.stable hbw.out)
      clear hb1
      obtain ⟨fv, hfv⟩ : ∃ fv, flowV n bs 0 y = fv := ⟨_, rfl⟩
      have hfvH := Lib.hid hfv
      clear hfv
      obtain ⟨s, hs⟩ : ∃ s, min fv t = s := ⟨_, rfl⟩
      have hsH := Lib.hid hs
      clear hs
      by_cases hlt : s < t
      · have hr := Lib.hid (show false = r by
          rw [← hrH.out]
          unfold holdsB
          refine (decide_eq_false (fun h => ?_)).symm
          have h1 := h (y - 1) (by omega)
          rw [show y - 1 + 1 = y by omega, hfvH.out] at h1
          have := hsH.out
          omega)
        have hlti : (s : Int) < (t : Int) := by omega
        go_wp2_with (first
          | (go_at_call 145; refine (networkOf_any n B m c bs _ hB1.out hbo.out hn (by omega)).mono ?_; rintro e w1 ⟨p, vR, vF, uR, uF, rfl, hnet, hbx⟩; have hnetH := Lib.hid hnet; have hb1H := Lib.hid hbx; have hs1 := hbx.size; clear hnet hbx)
          | (go_at_call 146; refine (send0_any wr.heap.size p n y t bs vR vF uR uF _ (by rw [hml.out]; exact hnetH.out) hbo.out hyn (by omega) hn (by rw [hml.out]; omega) (by omega) hs1).mono ?_; rintro e w2 ⟨rfl, _, hbx⟩; rw [hfvH.out, hsH.out]; have hb2H := Lib.hid hbx; clear hbx))
        go_ret
        exact ⟨ret_bool hr.out, hbw.out.trans ((hb1H.out.trans hb2H.out).mono hsz)⟩
      · have hlti : ¬ (s : Int) < (t : Int) := by omega
        have hge : t ≤ fv := by have := hsH.out; omega
        have hgeH := Lib.hid hge
        clear hge
        go_wp2_with (first
          | (go_at_call 145; refine (networkOf_any n B m c bs _ hB1.out hbo.out hn (by omega)).mono ?_; rintro e w1 ⟨p, vR, vF, uR, uF, rfl, hnet, hbx⟩; have hnetH := Lib.hid hnet; have hb1H := Lib.hid hbx; have hs1 := hbx.size; clear hnet hbx)
          | (go_at_call 146; refine (send0_any wr.heap.size p n y t bs vR vF uR uF _ (by rw [hml.out]; exact hnetH.out) hbo.out hyn (by omega) hn (by rw [hml.out]; omega) (by omega) hs1).mono ?_; rintro e w2 ⟨rfl, _, hbx⟩; rw [hfvH.out, hsH.out]; have hb2H := Lib.hid hbx; clear hbx))
        go_roundg (n + 1 - (y + 1))
        case measure => omega
        case rel =>
          refine ⟨y + 1, by omega, by omega, by go_num, Lib.hid (fun j hj => ?_), Lib.hid (hbw.out.trans ((hb1H.out.trans hb2H.out).mono hsz))⟩
          by_cases hjy : j < y - 1
          · exact hall.out j hjy
          · obtain rfl : j = y - 1 := by omega
            rw [show y - 1 + 1 = y by omega, hfvH.out]
            exact hgeH.out
    · have hr := Lib.hid (show true = r by
        rw [← hrH.out]
        unfold holdsB
        exact (decide_eq_true fun j hj => hall.out j (by omega)).symm)
      have hyi : ¬ (y : Int) < (n : Int) := by omega
      go_wp2
      go_ret
      exact ⟨ret_bool hr.out, hbw.out⟩
/-- stable, and whether there was room -/
def StabRes (w : World) (r : Bool × Int) (e : Ending) (w' : World) : Prop := ∃ b ok, e = .returned (.tuple #[.bool b, .bool ok]) ∧ ((ok = true ∧ r = (b, 0)) ∨ (ok = false ∧ r = (false, 4))) ∧ Below w.heap.size w w'
set_option maxRecDepth 100000 in
set_option maxHeartbeats 2000000 in
theorem stable_any (G T A : Option Addr) (n cg m ct q ca : Nat) (gs : List Gl) (ts : List Ti) (xs : List Pl) (t : Nat) (w : World) (h : SA w G n T m A q gs ts xs) (hV : Valid gs ts xs) (ht : t ≤ 1000) :
    Calls Tryz.prog 127 #[.agg #[.slice G n cg, .slice T m ct], .agg #[.slice A q ca], .int .i64 (t : Int)] w (StabRes w (stabR xs.length (bondsL gs ts xs) t)) := by
  have hSA := Lib.hid h
  have hlen := h.A.len
  have hbo := bondsOk hV
  have hbl := bondsL_len hV
  have hVl := hV.len
  rw [hlen] at hbo hVl ⊢
  have hboH := Lib.hid hbo
  clear h hbo
  generalize hbs : bondsL gs ts xs = bs at *
  have hbsH := Lib.hid hbs
  clear hbs
  have hok := Lib.hid (fun (h : 0 < (grpT q bs t).length) => ctrI_ok hboH.out (nameT_lt h) bs.length)
  have hsl := ctrI_len (nameT q bs t) bs bs.length
  have hgl := grpT_len q bs t
  go_enter Tryz.func127, Tryz.ntmps127
  go_wp2
  refine wp_region_ord [(0, .q), (1, .q), (2, .q), (3, .q), (4, .q), (6, .q), (5, .g), (7, .g), (8, .q), (9, .q), (10, .q), (11, .q), (12, .q)] (by kernel_rfl) (by kernel_rfl) ?_
  simp only [pick, List.filterMap_cons, List.filterMap_nil, List.getElem?_toArray, List.getElem?_cons_zero, List.getElem?_cons_succ, Option.map_some]
  repeat (first | ((with_reducible refine wpD_p (fun K hK => ?_)); go_simp; refine hK _ ?_; clear hK K) | ((with_reducible refine wpD_q (fun K hK => ?_)); go_simp; (first | refine hK _ ?_ | (go_bits; refine hK _ ?_) | (go_bits; go_simp; refine hK _ ?_)); clear hK K))
  with_reducible refine wpD_g (fun K hK => ?_)
  go_simp
  refine ((hSA.out.below (by exact bel_)).bonds hV).mono ?_
  rw [hbsH.out]
  rintro e w2 ⟨v, rfl, hrow, hb2⟩
  refine ⟨_, rfl, hb2, hK _ _ ?_⟩
  have hrowH := Lib.hid hrow
  clear hK K hrow
  repeat (first | ((with_reducible refine wpD_p (fun K hK => ?_)); go_simp; refine hK _ ?_; clear hK K) | ((with_reducible refine wpD_q (fun K hK => ?_)); go_simp; (first | refine hK _ ?_ | (go_bits; refine hK _ ?_) | (go_bits; go_simp; refine hK _ ?_)); clear hK K))
  with_reducible refine wpD_g (fun K hK => ?_)
  go_simp
  refine (contracted_any _ q v bs t _ hrowH.out hboH.out (by omega) (by omega)).mono ?_
  rintro e w3 ⟨v3, rfl, hrow3, hb3⟩
  obtain ⟨B3, c3, rfl, hB3⟩ := rd_of_row hrow3
  refine ⟨_, rfl, hb3, hK _ _ ?_⟩
  have hB3H := Lib.hid hB3
  clear hK K hrow3 hB3
  repeat (first | ((with_reducible refine wpD_p (fun K hK => ?_)); go_simp; refine hK _ ?_; clear hK K) | ((with_reducible refine wpD_q (fun K hK => ?_)); go_simp; (first | refine hK _ ?_ | (go_bits; refine hK _ ?_) | (go_bits; go_simp; refine hK _ ?_)); clear hK K))
  with_reducible refine wpD_nil ?_
  obtain ⟨K, hK⟩ : ∃ K, (grpT q bs t).length = K := ⟨_, rfl⟩
  have hfull := Lib.hid (stabR_full (n := q) (t := t) (bs := bs))
  have his := Lib.hid (stabR_is (n := q) (t := t) (bs := bs))
  have hbb : Below w.heap.size w w3 := by exact bel_
  have hbbH := Lib.hid hbb
  have hs3 := hbb.size
  rw [hK] at hfull his hok hgl ⊢
  clear hK hbb hb2 hb3
  by_cases h64 : 64 < K
  · have h64H := Lib.hid h64
    have hi64 : (64 : Int) < (K : Int) := by omega
    go_wp2
    go_ret2
    exact ⟨false, false, rfl, .inr ⟨rfl, (hfull.out h64H.out).symm⟩, hbbH.out⟩
  · have h64H := Lib.hid h64
    have hi64 : ¬ (64 : Int) < (K : Int) := by omega
    have hsl2 : (shrI q bs t).length ≤ bs.length := hsl
    have hisH := Lib.hid (his.out h64H.out)
    obtain ⟨b, hbE⟩ : ∃ b, holdsB K (shrI q bs t) t = b := ⟨_, rfl⟩
    have hbEH := Lib.hid hbE
    clear hbE
    go_wp2_with (go_at_call 136; refine (holds_any K t B3 _ c3 (shrI q bs t) _ hB3H.out (fun h => hok.out (by omega)) (by omega) (by omega) ht).mono ?_; rw [hbEH.out]; rintro e w4 ⟨rfl, hb4⟩; have hb4H := Lib.hid hb4; clear hb4)
    go_ret2
    exact ⟨b, true, rfl, .inl ⟨rfl, by rw [← hisH.out, hbEH.out]⟩, hbbH.out.trans (hb4H.out.mono hs3)⟩
set_option maxRecDepth 100000 in
set_option maxHeartbeats 2000000 in
theorem IsStable_any (G T A : Option Addr) (n cg m ct q ca : Nat) (gs : List Gl) (ts : List Ti) (xs : List Pl) (t : Int) (w : World) (h : SA w G n T m A q gs ts xs) :
    Calls Tryz.prog 109 #[.agg #[.slice G n cg, .slice T m ct], .agg #[.slice A q ca], .int .i64 t] w (BCodeRes w (isStabR gs ts xs t)) := by
  have hSA := Lib.hid h
  clear h
  cases hval : validAsmB gs ts xs
  · have hvH := Lib.hid hval
    clear hval
    go_enter Tryz.func109, Tryz.ntmps109
    go_wp2_with fail
    refine ((hSA.out.below (by exact bel_)).valid hvH.out).mono ?_
    rintro e w1 ⟨rfl, hb1⟩
    go_wp2
    go_ret2
    exact BCodeRes.of (isStabR_no hvH.out) (by exact bel_)
  · have hvH := Lib.hid hval
    have hV := valid_of hval
    clear hval
    cases htmp : tempB t
    · have htH := Lib.hid htmp
      clear htmp
      go_enter Tryz.func109, Tryz.ntmps109
      go_wp2_with fail
      refine ((hSA.out.below (by exact bel_)).valid hvH.out).mono ?_
      rintro e w1 ⟨rfl, hb1⟩
      go_wp2_with (go_at_call 126; refine (isTemperature_any t _).mono ?_; rw [htH.out]; rintro e _ ⟨rfl, rfl⟩)
      go_ret2
      exact BCodeRes.of (isStabR_range hvH.out htH.out) (by exact bel_)
    · have htH := Lib.hid htmp
      obtain ⟨tn, rfl, ht1, ht2⟩ := tempB_true htmp
      clear htmp
      have hr := Lib.hid (isStabR_yes hvH.out htH.out)
      go_enter Tryz.func109, Tryz.ntmps109
      go_wp2_with fail
      refine ((hSA.out.below (by exact bel_)).valid hvH.out).mono ?_
      rintro e w1 ⟨rfl, hb1⟩
      have ca1 := (hb1.cell (p := ⟨w.heap.size + 1, 0, none⟩) (by simp)).trans (show _ = some (Value.slice A q ca) by go_simp)
      have cg1 := (hb1.cell (p := ⟨w.heap.size, 0, none⟩) (by simp; omega)).trans (show _ = some (Value.slice G n cg) by go_simp)
      have ct1 := (hb1.cell (p := ⟨w.heap.size, 1, none⟩) (by simp; omega)).trans (show _ = some (Value.slice T m ct) by go_simp)
      have la1 : w.heap.size + 1 < w1.heap.size := by have := hb1.size; simp at this; omega
      have lg1 : w.heap.size < w1.heap.size := by omega
      have hb1H : Below w.heap.size w w1 := by exact bel_
      have hSA1 := Lib.hid (hSA.out.below hb1H)
      go_wp2_with (first
        | (go_at_call 126; refine (isTemperature_any tn _).mono ?_; rw [htH.out]; rintro e _ ⟨rfl, rfl⟩)
        | (go_at_call 127; refine (stable_any G T A n cg m ct q ca gs ts xs tn _ hSA1.out hV (by omega)).mono ?_; rw [hr.out]; rintro e w2 ⟨b, ok, rfl, (⟨rfl, hre⟩ | ⟨rfl, hre⟩), hb2⟩))
      · go_ret2
        exact BCodeRes.of hre.symm (by exact bel_)
      · go_ret2
        exact BCodeRes.of hre.symm (by exact bel_)
end Go.Proofs.YtmpmokefgdjnkaaGreat
