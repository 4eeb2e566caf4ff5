/- Walks: a list of bonds copied; its weak bonds struck out. -/
import Derived.Test.YtmhgjgclclnmaaaGreatW20a
import Derived.Lib.LazyBuf
import Derived.Lib.SliceRun
namespace Go.Proofs.YtmhgjgclclnmaaaGreat
open Go.RowKit Go.Shelf
set_option linter.unusedSimpArgs false
set_option linter.unusedVariables false
attribute [local go_sem] BelowBy.cell BelowBy.cell_drew stillUpon givesUpon BelowBy.cell_drew2 BelowBy.cell_drew3

theorem bdCells_one (bs : List Bd) : ∀ u ∈ bdCells bs, u.oneCell' = true := by
  induction bs with
  | nil => simp [bdCells]
  | cons b l ih =>
    intro u hu
    simp only [bdCells, List.mem_cons] at hu
    rcases hu with rfl | rfl | rfl | hu
    · rfl
    · rfl
    · rfl
    · exact ih u hu
def OwnRes (w : World) (bs : List Bd) (e : Ending) (w' : World) : Prop := ∃ v, e = .returned v ∧ w'.ownsRow w.heap.size 49 3 v bs.length (bdCells bs) ∧ Below w.heap.size w w'
set_option maxRecDepth 100000 in
set_option maxHeartbeats 1000000 in
theorem CloneB_any (base : Nat) (v : Value) (bs : List Bd) (w : World) (h : w.ownsRow base 49 3 v bs.length (bdCells bs)) (hn : bs.length ≤ 100000) :
    Calls Tryz.prog 109 #[v] w (OwnRes w bs) := by
  obtain ⟨i0, hi, hz0, hz1, hz2⟩ := info_parts infoBond
  rcases h.2 with ⟨rfl, h0⟩ | ⟨g, cap, cur, rfl, hb, hh, hnc, hm, hs, ht⟩
  · have hb : bs = [] := List.eq_nil_of_length_eq_zero h0
    subst hb
    have hq := fun W => Lib.run_eql_slice_nil (P := Tryz.prog) W 44 49 none 0 0 0 0 Tryz.underlying44
    clear h
    go_enter Tryz.func109, Tryz.ntmps109
    go_wp2
    go_ret
    exact ⟨_, rfl, World.ownsRow_nil _ _ _ _, bl_refl _⟩
  · have hq := fun W => Lib.run_eql_slice_nil (P := Tryz.prog) W 44 49 (some ⟨g, 0, none⟩) bs.length cap 0 0 Tryz.underlying44
    have hcell := h.cells (g := g) rfl
    have hcellH := Lib.hid hcell
    have hlt := (Array.getElem?_eq_some_iff.1 hh).1
    have hlen := h.1
    have hlenH := Lib.hid hlen
    clear h hcell hh hs ht hlen
    obtain ⟨L, hL⟩ : ∃ L, bs.length = L := ⟨_, rfl⟩
    rw [hL] at hn hnc hlenH hq
    rw [hL]
    have hLH := Lib.hid hL
    clear hL
    go_enter Tryz.func109, Tryz.ntmps109
    go_wp2_with (at_builtin; go_loud (refine wpList_append_own _ rfl _ _ 44 rfl w.heap.size 49 i0 (.agg #[.int .i64 0, .int .i64 0, .int .i64 0]) 3 24 Tryz.underlying44 hi hz0 hz1 hz2 rfl (by decide) _ 0 [] rfl (World.ownsRow_made _ _ _ (Nat.le_refl _) (by decide) rfl) ⟨g, 0, none⟩ L cap (bdCells bs) rfl hlenH.out (fun j u hj => (World.cell?_alloc_lt _ _ _ (by rw [Addr.add_lit]; exact hlt)).trans (hcellH.out j u hj)) (bdCells_one bs) (by unfold maxLen; omega) (by omega) (by simp) ?_); intro v' w3 hown' hgrow _)
    go_ret
    refine ⟨_, rfl, ?_, ((Below.refl w.heap.size w).alloc (Nat.le_refl _) _).grown hgrow (by simp) (fun b' hb' => ?_)⟩
    · rw [hLH.out]
      simpa using hown'
    · have hb2 : some w.heap.size = some b' := hb'
      injection hb2 with hb3
      exact Nat.le_of_eq hb3
/-- what is struck out -/
def weakB (t : Int) (b : Bd) : Bool := decide (b.s < t)
set_option maxHeartbeats 1000000 in
theorem contr1_any (p : Nat) (t : Int) (e : Bd) (w : World) (hp : w.cell? ⟨p, 0, none⟩ = some (.int .i64 t)) (hlt : p < w.heap.size) :
    Calls Tryz.prog 175 #[.agg #[.int .i64 (e.a : Int), .int .i64 (e.b : Int), .int .i64 e.s], .pointer (some ⟨p, 0, none⟩)] w fun e' w' => e' = .returned (.bool (weakB t e)) ∧ Below w.heap.size w w' := by
  have hpl := Nat.le_of_lt hlt
  go_enter Tryz.func175, Tryz.ntmps175
  go_wp2
  go_ret
  exact ⟨ret_bool rfl, by exact bel_⟩
def FirstK (w : World) (n : Nat) (del : Nat → Bool) (e : Ending) (w' : World) : Prop :=
  ((e = .returned (.int .i64 (-1)) ∧ ∀ j, j < n → del j = false) ∨ ∃ k : Nat, k < n ∧ e = .returned (.int .i64 (k : Int)) ∧ del k = true ∧ ∀ j, j < k → del j = false) ∧ Below w.heap.size w w'
def delAt (t : Int) (bs : List Bd) (j : Nat) : Bool := match bs[j]? with
  | none => false
  | some b => weakB t b
theorem delAt_eq {t : Int} {bs : List Bd} {j : Nat} {b : Bd} (h : bs[j]? = some b) : delAt t bs j = weakB t b := by unfold delAt; rw [h]
set_option maxHeartbeats 1000000 in
theorem IndexFuncB_any (p : Nat) (A : Option Addr) (n c : Nat) (t : Int) (bs : List Bd) (w : World) (hp : w.cell? ⟨p, 0, none⟩ = some (.int .i64 t)) (hlt : p < w.heap.size) (hB : RdSl 3 RBd w A n bs) (hn : n ≤ 100000) :
    Calls Tryz.prog 156 #[.slice A n c, .func (.func 175) #[] #[.pointer (some ⟨p, 0, none⟩)]] w (FirstK w n (delAt t bs)) := by
  go_enter Tryz.func156, Tryz.ntmps156
  go_wp2
  go_loopg [8] n (fun r x wr => ∃ k : Nat, k + r = n ∧ x = .int .i64 (k : Int) ∧ Hid (∀ j, j < k → delAt t bs j = false) ∧ Below w.heap.size w wr)
  case atStart => exact ⟨0, by omega, rfl, Lib.hid (fun j hj => by omega), bl_refl _⟩
  case round =>
    obtain ⟨k, hk, rfl, hno, hbw⟩ := hrel
    have g1 := (hbw.cell (p := ⟨p, 0, none⟩) hlt).trans hp
    have gp := Nat.lt_of_lt_of_le hlt hbw.size
    have hB' := hB.below RBd.stable hbw
    by_cases hkn : k < n
    · obtain ⟨b, o, rfl, hb, hc⟩ := hB'.ptr (by omega)
      obtain ⟨e, he⟩ := hB.get hkn
      obtain ⟨c0, c1, c2⟩ := hc k e he
      have hd := delAt_eq (t := t) he
      cases hv : weakB t e
      · have hdH := Lib.hid (hd.trans hv)
        have hvH := Lib.hid hv
        clear hc he hB hB' hd hv
        go_wp2_with fail
        refine (contr1_any p t e _ g1 gp).mono ?_
        rw [hvH.out]
        rintro e' w1 ⟨rfl, hb1⟩
        go_wp2
        go_roundg (n - (k + 1))
        case measure => omega
        case rel => exact ⟨k + 1, by omega, by go_num, Lib.hid (fun j hj => by
          rcases Nat.lt_succ_iff_lt_or_eq.1 hj with hj | rfl
          · exact hno.out j hj
          · exact hdH.out), bl_tr hbw hb1⟩
      · have hdH := Lib.hid (hd.trans hv)
        have hvH := Lib.hid hv
        clear hc he hB hB' hd hv
        go_wp2_with fail
        refine (contr1_any p t e _ g1 gp).mono ?_
        rw [hvH.out]
        rintro e' w1 ⟨rfl, hb1⟩
        go_wp2
        go_ret
        exact ⟨Or.inr ⟨k, hkn, rfl, hdH.out, hno.out⟩, bl_tr hbw hb1⟩
    · obtain rfl : k = n := by omega
      clear hB'
      go_wp2
      go_ret
      exact ⟨Or.inl ⟨rfl, hno.out⟩, hbw⟩
theorem run_clear_rows {P : Program} (w : World) (t e ty : TypeId) (z : Value) (ht : P.underlying t = some (.slice e)) (hv : ∀ w, (zeroValue e).run P w = .ok z w) (b o n c : Nat) (hn : 0 < n)
    (hc : ∀ j, j < n * z.cells.size → (w.cell? ⟨b, o + j, none⟩).isSome = true) (hf : ∀ j, j < n * z.cells.size → w.frozen? ⟨b, o + j, none⟩ = false) (h1 : ∀ u ∈ (Builtin.zeroCells z.cells n).toList, u.oneCell' = true) :
    (Builtin.clear_ #[t] ty #[.slice (some ⟨b, o, none⟩) n c]).run P w = .ok (.tuple #[]) (w.setCells b o (Builtin.zeroCells z.cells n).toList) := by
  have hlen : (Builtin.zeroCells z.cells n).toList.length = n * z.cells.size := by simp [size_zeroCells]
  have hst := run_storeCells_cells (P := P) b o (Builtin.zeroCells z.cells n).toList 0 w (by rw [hlen]; simpa using hc) (by rw [hlen]; simpa using hf) h1
  simp only [Nat.add_zero] at hst
  obtain ⟨m, rfl⟩ : ∃ m, n = m + 1 := ⟨n - 1, by omega⟩
  simp [Builtin.clear_, run_underlying ht, hv, hst]
theorem zero3 (n : Nat) : ∀ u ∈ (Builtin.zeroCells #[Value.int .i64 0, .int .i64 0, .int .i64 0] n).toList, u.oneCell' = true := by
  intro u hu
  simp only [Builtin.zeroCells, Array.toList_map, List.mem_map] at hu
  obtain ⟨i, _, rfl⟩ := hu
  have : i % 3 = 0 ∨ i % 3 = 1 ∨ i % 3 = 2 := by omega
  rcases this with h | h | h <;> simp [h] <;> rfl
def keepL (t : Int) (bs : List Bd) (k : Nat) : List Bd := (bs.take k).filter fun b => !weakB t b
theorem keepL_succ_yes {t : Int} {bs : List Bd} {k : Nat} {e : Bd} (he : bs[k]? = some e) (h : weakB t e = false) : keepL t bs (k + 1) = keepL t bs k ++ [e] := by
  obtain ⟨hk, rfl⟩ := List.getElem?_eq_some_iff.1 he
  unfold keepL; rw [List.take_succ_eq_append_getElem hk, List.filter_append]; simp [h]
theorem keepL_succ_no {t : Int} {bs : List Bd} {k : Nat} {e : Bd} (he : bs[k]? = some e) (h : weakB t e = true) : keepL t bs (k + 1) = keepL t bs k := by
  obtain ⟨hk, rfl⟩ := List.getElem?_eq_some_iff.1 he
  unfold keepL; rw [List.take_succ_eq_append_getElem hk, List.filter_append]; simp [h]
theorem keepL_len (t : Int) (bs : List Bd) (k : Nat) : (keepL t bs k).length ≤ k := Nat.le_trans (List.length_filter_le _ _) (List.length_take_le _ _)
theorem keepL_all {t : Int} {bs : List Bd} {k : Nat} (h : ∀ j, j < k → delAt t bs j = false) : keepL t bs k = bs.take k := by
  unfold keepL
  rw [List.filter_eq_self]
  intro b hb
  obtain ⟨j, hj, rfl⟩ := List.mem_iff_getElem.1 hb
  have hj' : j < k ∧ j < bs.length := by simp at hj; omega
  have := h j hj'.1
  rw [delAt_eq (List.getElem?_eq_getElem hj'.2)] at this
  simpa using this
/-- what is left of a row of bonds -/
def DelRes (base : Nat) (w : World) (l : List Bd) (e : Ending) (w' : World) : Prop := ∃ A c, e = .returned (.slice A l.length c) ∧ RdSl 3 RBd w' A l.length l ∧ Below base w w'
theorem DelRes.of {base n : Nat} {w w' : World} {l : List Bd} {A : Option Addr} {c : Nat} (hn : n = l.length) (h : RdSl 3 RBd w' A l.length l) (hb : Below base w w') : DelRes base w l (.returned (.slice A n c)) w' := by
  subst hn; exact ⟨A, c, rfl, h, hb⟩
set_option maxRecDepth 100000 in
set_option maxHeartbeats 4000000 in
theorem DeleteFuncB_any (base p : Nat) (t : Int) (v : Value) (bs : List Bd) (w : World) (hrow : w.ownsRow base 49 3 v bs.length (bdCells bs)) (hn : bs.length ≤ 100000)
    (hp : w.cell? ⟨p, 0, none⟩ = some (.int .i64 t)) (hpb : p < base) (hbz : base ≤ w.heap.size) :
    Calls Tryz.prog 108 #[v, .func (.func 175) #[] #[.pointer (some ⟨p, 0, none⟩)]] w (DelRes base w (keepL t bs bs.length)) := by
  obtain ⟨A, cap, rfl, rdb⟩ := rd_of_row hrow
  obtain ⟨n, hnn⟩ : ∃ n, bs.length = n := ⟨_, rfl⟩
  rw [hnn] at hn rdb hrow
  rw [hnn]
  have hnnH := Lib.hid hnn
  have hpl : p < w.heap.size := by omega
  have hpO := Lib.hid hp
  clear hnn
  go_enter Tryz.func108, Tryz.ntmps108
  go_wp2_with fail
  refine (IndexFuncB_any p A n cap t bs _ hp hpl rdb hn).mono ?_
  rintro e w1 ⟨(⟨rfl, hall⟩ | ⟨k, hkn, rfl, hdk, hall⟩), hb1⟩
  · have hallH := Lib.hid hall
    have rdH := Lib.hid (rdb.below RBd.stable hb1)
    have hK := keepL_all (t := t) (bs := bs) (k := n) hall
    rw [List.take_of_length_le (by rw [hnnH.out]; exact Nat.le_refl _)] at hK
    have hKH := Lib.hid hK
    clear hall rdb hrow hK
    go_wp2
    go_ret
    rw [hKH.out]
    exact DelRes.of hnnH.out.symm (by rw [hnnH.out]; exact rdH.out) (hb1.mono hbz)
  · have hk1 : ¬ ((k : Int) = -1) := by omega
    have hk1' : ((k : Int) == -1) = false := by simp
    rcases hrow.2 with ⟨h0, h0'⟩ | ⟨g, cap', cur, hv, hb, hh, hnc, hm, hs, ht⟩
    · omega
    obtain ⟨rfl, -, rfl⟩ : A = some ⟨g, 0, none⟩ ∧ n = n ∧ cap = cap' := by injection hv with a1 a2 a3; exact ⟨a1, a2, a3⟩
    have hgl : g < w.heap.size := (Array.getElem?_eq_some_iff.1 hh).1
    have hh1 := (hb1.block g hgl).trans hh
    have hrow1 : w1.rowIs g 49 (cap * 3) (fun i => cur.getD i undef) := by
      refine ⟨cur, hh1, hs, fun i hi => ?_⟩
      have : i < cur.size := by omega
      simp [this]
    have hget : ∀ q b, bs[q]? = some b → q < n → cur.getD (q * 3) undef = .int .i64 (b.a : Int) ∧ cur.getD (q * 3 + 1) undef = .int .i64 (b.b : Int) ∧ cur.getD (q * 3 + 2) undef = .int .i64 b.s := by
      intro q b hq hqn
      obtain ⟨x0, x1, x2⟩ := bdCells_get bs q b hq
      rw [← ht, List.getElem?_take_of_lt (by omega)] at x0 x1 x2
      simp only [Array.getElem?_toList] at x0 x1 x2
      simp [Array.getD_eq_getD_getElem?, x0, x1, x2]
    have hkeep0 := keepL_all (t := t) (bs := bs) (k := k) hall
    obtain ⟨ek, hek⟩ : ∃ e, bs[k]? = some e := ⟨_, List.getElem?_eq_getElem (by rw [hnnH.out]; exact hkn)⟩
    have hkeep1 := keepL_succ_no (t := t) hek (by rw [← delAt_eq (t := t) hek]; exact hdk)
    have hkl : k = (keepL t bs (k + 1)).length := by rw [hkeep1, hkeep0]; simp; rw [hnnH.out]; omega
    obtain ⟨F0, hF0⟩ : ∃ F : Nat → Bd, ∀ q b, bs[q]? = some b → F q = b := ⟨fun q => match bs[q]? with | some b => b | none => ⟨0, 0, 0⟩, fun q b h => by simp only [h]⟩
    have hst : Hid (k = (keepL t bs (k + 1)).length ∧ (∀ q b, (keepL t bs (k + 1))[q]? = some b → F0 q = b) ∧ (∀ q b, k + 1 ≤ q → bs[q]? = some b → F0 q = b)) := by
      refine Lib.hid ⟨hkl, fun q b hq => ?_, fun q b _ hq => hF0 q b hq⟩
      rw [hkeep1, hkeep0, List.getElem?_take] at hq
      split at hq
      · exact hF0 q b hq
      · cases hq
    have hf0 : Hid (∀ q, q < n → (fun i => cur.getD i undef) (q * 3) = .int .i64 ((F0 q).a : Int) ∧ (fun i => cur.getD i undef) (q * 3 + 1) = .int .i64 ((F0 q).b : Int) ∧ (fun i => cur.getD i undef) (q * 3 + 2) = .int .i64 (F0 q).s) := Lib.hid fun q hq => by
      obtain ⟨b, hqb⟩ : ∃ b, bs[q]? = some b := ⟨_, List.getElem?_eq_getElem (by rw [hnnH.out]; exact hq)⟩
      rw [hF0 q b hqb]
      exact hget q b hqb hq
    have hB1 := Lib.hid (hb1.mono hbz)
    have hbg := hb
    clear hkl hF0 hget hkeep0 hkeep1 hek hall rdb hrow hh hh1 hs ht hv hb1 hp hdk
    go_wp2
    go_loopg [5, 6] (n - (k + 1)) (fun r x y wr => ∃ (i j : Nat) (F : Nat → Bd) (f : Nat → Value), j + r = n ∧ i < j ∧ x = .int .i64 (i : Int) ∧ y = .int .i64 (j : Int) ∧ Hid (i = (keepL t bs j).length ∧ (∀ q b, (keepL t bs j)[q]? = some b → F q = b) ∧ (∀ q b, j ≤ q → bs[q]? = some b → F q = b)) ∧ wr.rowIs g 49 (cap * 3) f ∧ Hid (∀ q, q < n → f (q * 3) = .int .i64 ((F q).a : Int) ∧ f (q * 3 + 1) = .int .i64 ((F q).b : Int) ∧ f (q * 3 + 2) = .int .i64 (F q).s) ∧ Below base w wr)
    case atStart => exact ⟨k, k + 1, F0, _, by omega, by omega, rfl, by go_num, hst, hrow1, hf0, hB1.out⟩
    case round =>
      obtain ⟨i, j, F, f, hj, hij, rfl, rfl, hst', hrw, hf, hbw⟩ := hrel
      clear hst hf0 hrow1
      have hgw : g < wr.heap.size := hrw.lt
      have g1 := (hbw.cell (p := ⟨p, 0, none⟩) hpb).trans hpO.out
      have gp := Nat.lt_of_lt_of_le hpl hbw.size
      by_cases hlt : j < n
      · obtain ⟨e, he⟩ : ∃ e, bs[j]? = some e := ⟨_, List.getElem?_eq_getElem (by rw [hnnH.out]; exact hlt)⟩
        have hFj := hst'.out.2.2 j e (Nat.le_refl _) he
        obtain ⟨v0, v1, v2⟩ := hf.out j hlt
        rw [hFj] at v0 v1 v2
        have c0 := hrw.cell (i := j * 3) (by omega)
        have c1 := hrw.cell (i := j * 3 + 1) (by omega)
        have c2 := hrw.cell (i := j * 3 + 2) (by omega)
        rw [v0] at c0
        rw [v1] at c1
        rw [v2] at c2
        have heH := Lib.hid he
        have hrwH := Lib.hid hrw
        clear v0 v1 v2 hFj he hrw
        cases hcd : weakB t e
        · have hnx := Lib.hid (keepL_succ_yes heH.out hcd)
          have hcdH := Lib.hid hcd
          clear hcd
          go_wp2_with fail
          refine (contr1_any p t e _ (by go_simp) (by simp; omega)).mono ?_
          rw [hcdH.out]
          rintro e' w2 ⟨rfl, hb2⟩
          have hrw2 := hrwH.out.of_block ((hb2.block g (by simp; omega)).trans (Below.heap_alloc _ _ _ hgw))
          have d0 := hrw2.cell (i := i * 3) (by omega)
          have d1 := hrw2.cell (i := i * 3 + 1) (by omega)
          have d2 := hrw2.cell (i := i * 3 + 2) (by omega)
          have k0 := hrw2.frozen (i * 3)
          have k1 := hrw2.frozen (i * 3 + 1)
          have k2 := hrw2.frozen (i * 3 + 2)
          have x0 : w2.cell? ⟨wr.heap.size, 0, none⟩ = some (.int .i64 (e.a : Int)) := (hb2.cell (p := ⟨wr.heap.size, 0, none⟩) (by simp)).trans (by go_simp)
          have x1 : w2.cell? ⟨wr.heap.size, 1, none⟩ = some (.int .i64 (e.b : Int)) := (hb2.cell (p := ⟨wr.heap.size, 1, none⟩) (by simp)).trans (by go_simp)
          have x2 : w2.cell? ⟨wr.heap.size, 2, none⟩ = some (.int .i64 e.s) := (hb2.cell (p := ⟨wr.heap.size, 2, none⟩) (by simp)).trans (by go_simp)
          have hB2 : Below base w w2 := hbw.trans (Below.mono (bl_tr (bl_al (bl_refl _) _) hb2) (Nat.le_trans hbz hbw.size))
          have hB2H := Lib.hid hB2
          have hrw2H := Lib.hid hrw2
          have hin : i < n := by omega
          clear c0 c1 c2 hb2 hB2 hrw2 g1
          go_wp2
          go_roundg (n - (j + 1))
          case measure => omega
          case rel => exact ⟨i + 1, j + 1, fun q => if q = i then e else F q, _, by omega, by omega, by go_num, by go_num, Lib.hid ⟨by
              rw [hnx.out, List.length_append, ← hst'.out.1]; rfl, fun q b hq => by
              rw [hnx.out] at hq
              have hil := hst'.out.1
              rcases Nat.lt_or_ge q i with hqi | hqi
              · rw [List.getElem?_append_left (by omega)] at hq
                show (if q = i then e else F q) = b
                rw [if_neg (by omega)]; exact hst'.out.2.1 q b hq
              · rw [List.getElem?_append_right (by omega)] at hq
                have : q - (keepL t bs j).length = 0 := by
                  rcases Nat.eq_zero_or_pos (q - (keepL t bs j).length) with h0 | h0
                  · exact h0
                  · rw [List.getElem?_eq_none (by simp; omega)] at hq; cases hq
                rw [this] at hq
                show (if q = i then e else F q) = b
                rw [if_pos (by omega)]; simpa using hq, fun q b hq hb => by
              show (if q = i then e else F q) = b
              rw [if_neg (by omega)]; exact hst'.out.2.2 q b (by omega) hb⟩, ((hrw2H.out.set (i * 3) _).set (i * 3 + 1) _).set (i * 3 + 2) _, Lib.hid (fun q hq => by
              obtain ⟨u0, u1, u2⟩ := hf.out q hq
              by_cases hqi : q = i
              · subst hqi
                simp
              · rw [if_neg (by omega), if_neg (by omega), if_neg (by omega), if_neg (by omega), if_neg (by omega), if_neg (by omega), if_neg (by omega), if_neg (by omega), if_neg (by omega)]
                show f (q * 3) = Value.int .i64 ((if q = i then e else F q).a : Int) ∧ f (q * 3 + 1) = Value.int .i64 ((if q = i then e else F q).b : Int) ∧ f (q * 3 + 2) = Value.int .i64 (if q = i then e else F q).s
                rw [if_neg hqi]
                exact ⟨u0, u1, u2⟩), ((hB2H.out.setCell (p := ⟨g, i * 3, none⟩) hbg _).setCell (p := ⟨g, i * 3 + 1, none⟩) hbg _).setCell (p := ⟨g, i * 3 + 2, none⟩) hbg _⟩
        · have hnx := Lib.hid (keepL_succ_no heH.out hcd)
          have hcdH := Lib.hid hcd
          clear hcd
          go_wp2_with fail
          refine (contr1_any p t e _ (by go_simp) (by simp; omega)).mono ?_
          rw [hcdH.out]
          rintro e' w2 ⟨rfl, hb2⟩
          have hrw2 := hrwH.out.of_block ((hb2.block g (by simp; omega)).trans (Below.heap_alloc _ _ _ hgw))
          have hB2 : Below base w w2 := hbw.trans (Below.mono (bl_tr (bl_al (bl_refl _) _) hb2) (Nat.le_trans hbz hbw.size))
          have hB2H := Lib.hid hB2
          have hrw2H := Lib.hid hrw2
          clear c0 c1 c2 hb2 hB2 hrw2 g1
          go_wp2
          go_roundg (n - (j + 1))
          case measure => omega
          case rel => exact ⟨i, j + 1, F, _, by omega, by omega, rfl, by go_num, Lib.hid ⟨by rw [hnx.out]; exact hst'.out.1, fun q b hq => by rw [hnx.out] at hq; exact hst'.out.2.1 q b hq, fun q b hq hb => hst'.out.2.2 q b (by omega) hb⟩, hrw2H.out, hf, hB2H.out⟩
      · obtain rfl : j = n := by omega
        have hcl := fun (ty : TypeId) => run_clear_rows (P := Tryz.prog) wr 44 49 ty _ Tryz.underlying44 Tryz.zeroValue49 g (i * 3) (j - i) (cap - i) (by omega) (fun q hq => by rw [hrw.cell (i := i * 3 + q) (by simp [Value.cells] at hq; omega)]; rfl) (fun q hq => hrw.frozen _) (zero3 _)
        have hci : ¬ cap = i := by omega
        go_wp2
        go_ret
        obtain ⟨zs, hzs⟩ : ∃ zs, (Builtin.zeroCells #[Value.int .i64 0, Value.int .i64 0, Value.int .i64 0] (j - i)).toList = zs := ⟨_, rfl⟩
        rw [hzs]
        have hrw3 := Go.rowIs_setCells zs (i * 3) wr f hrw
        have hil := hst'.out.1
        have hfin := hst'.out.2.1
        have hrd : RdSl 3 RBd (wr.setCells g (i * 3) zs) (some ⟨g, 0, none⟩) (keepL t bs j).length (keepL t bs j) := by
          refine ⟨rfl, fun _ => ⟨g, 0, rfl, hrw3.lt, fun q hq => ?_⟩⟩
          have hFq := hfin q _ (List.getElem?_eq_getElem hq)
          obtain ⟨u0, u1, u2⟩ := hf.out q (by omega)
          rw [hFq] at u0 u1 u2
          refine ⟨?_, ?_, ?_⟩
          · rw [Nat.zero_add, hrw3.cell (i := q * 3) (by omega), if_neg (by omega), u0]
          · rw [Nat.zero_add, hrw3.cell (i := q * 3 + 1) (by omega), if_neg (by omega), u1]
          · rw [Nat.zero_add, hrw3.cell (i := q * 3 + 2) (by omega), if_neg (by omega), u2]
        exact DelRes.of hil hrd (Go.below_setCells hbg zs (i * 3) wr hbw)
end Go.Proofs.YtmhgjgclclnmaaaGreat
