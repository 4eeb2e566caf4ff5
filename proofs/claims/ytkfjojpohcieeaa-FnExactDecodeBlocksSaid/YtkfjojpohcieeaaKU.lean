import Derived.Test.YtkfjojpohcieeaaKQ
import Derived.Test.YtkfjojpohcieeaaPlC
import Derived.Test.YtkfjojpohcieeaaPSort
import Derived.Test.YtkfjojpohcieeaaW99p
import Derived.Lib.SliceRun
import Derived.Test.YtkfjojpohcieeaaQ20
import Derived.Test.YtkfjojpohcieeaaW23
import Derived.Test.YtkfjojpohcieeaaKO
import Derived.Test.YtkfjojpohcieeaaW74
import Derived.Test.YtkfjojpohcieeaaQ21
import Derived.Test.YtkfjojpohcieeaaKH
set_option linter.unusedSimpArgs false
set_option linter.unusedVariables false
/- Walks: a row of points from which those are struck out that a closure names. -/



namespace Go.Proofs.Ytkfjojpohcieeaa
open Go.RowKit Go.Shelf
attribute [local go_sem] BelowBy.cell BelowBy.cell_drew stillUpon givesUpon BelowBy.cell_drew2 BelowBy.cell_drew3

/-- nothing that was there has turned, but block g -/
def Gb (g : Nat) (w w' : World) : Prop := w.grownBy w' (some g)
section
variable {g : Nat} {w w' w'' : World}
theorem Gb.refl (g : Nat) (w : World) : Gb g w w := ⟨rfl, rfl, rfl, Nat.le_refl _, fun _ _ _ => rfl⟩
theorem Gb.size (h : Gb g w w') : w.heap.size ≤ w'.heap.size := World.grownBy.size h
theorem Gb.below (h : Gb g w w') (hb : Below w'.heap.size w' w'') : Gb g w w'' := by
  have h2 := grown_below hb none
  exact ⟨h2.os.trans h.os, h2.tape.trans h.tape, h2.output.trans h.output, Nat.le_trans (World.grownBy.size h) h2.size, fun k hk hne => (hb.block k (Nat.lt_of_lt_of_le hk (World.grownBy.size h))).trans (h.block k hk hne)⟩
theorem Gb.of_below (hb : Below w.heap.size w w') : Gb g w w' := (Gb.refl g w).below hb
theorem Gb.trans (h : Gb g w w') (h2 : Gb g w' w'') : Gb g w w'' :=
  ⟨h2.os.trans h.os, h2.tape.trans h.tape, h2.output.trans h.output, Nat.le_trans (World.grownBy.size h) (World.grownBy.size h2), fun k hk hne => (h2.block k (Nat.lt_of_lt_of_le hk (World.grownBy.size h)) hne).trans (h.block k hk hne)⟩
theorem Gb.set (h : Gb g w w') (o : Nat) (u : Value) : Gb g w (w'.setCell ⟨g, o, none⟩ u) := h.trans (gby_setCell w' g o u)
theorem Gb.cell (h : Gb g w w') {b o : Nat} (hb : b < w.heap.size) (hne : b ≠ g) : w'.cell? ⟨b, o, none⟩ = w.cell? ⟨b, o, none⟩ := World.cell?_of_block (a := ⟨b, o, none⟩) (h.block b hb (fun e => hne (by injection e)))
theorem Gb.toBelow {base : Nat} (h : Gb g w w') (hb : base ≤ w.heap.size) (hg : base ≤ g) : Below base w w' := (Below.refl base w).grown h hb (fun q e => by injection e with e; omega)
theorem Gb.sets (h : Gb g w w') (o : Nat) : ∀ (vs : List Value), Gb g w (w'.setCells g o vs)
  | vs => by
    have : ∀ (vs : List Value) (o : Nat) (W : World), Gb g w W → Gb g w (W.setCells g o vs) := by
      intro vs
      induction vs with
      | nil => intro o W h; exact h
      | cons v r ih => intro o W h; exact ih (o + 1) _ (h.set o v)
    exact this vs o w' h
end
/-- a closure that tells of each of these points whether it is named -/
def TellsP (g : Nat) (w : World) (f : FuncId) (caps : Array Value) (del : Pt → Bool) (bs : List Pt) : Prop :=
  ∀ W e, Gb g w W → e ∈ bs → Calls Try.prog f (#[.agg #[.int .i64 e.x, .int .i64 e.y]] ++ caps) W fun e' w' => e' = .returned (.bool (del e)) ∧ Below W.heap.size W w'
def FirstN (w : World) (n : Nat) (del : Nat → Bool) (e : Ending) (w' : World) : Prop :=
  ((e = .returned (.int .i64 (-1)) ∧ ∀ j, j < n → del j = false) ∨ ∃ k : Nat, k < n ∧ e = .returned (.int .i64 (k : Int)) ∧ del k = true ∧ ∀ j, j < k → del j = false) ∧ Below w.heap.size w w'
def delAtG {α : Type} (del : α → Bool) (bs : List α) (j : Nat) : Bool := match bs[j]? with
  | none => false
  | some b => del b
theorem delAtG_eq {α : Type} {del : α → Bool} {bs : List α} {j : Nat} {b : α} (h : bs[j]? = some b) : delAtG del bs j = del b := by unfold delAtG; rw [h]
set_option maxHeartbeats 1000000 in
theorem IndexFuncG_any (g : Nat) (f : FuncId) (caps : Array Value) (eg : ∀ args w, (callFunc f args).run Try.prog w = .ok (.enter f args) w) (del : Pt → Bool) (A : Option Addr) (n c : Nat) (bs : List Pt) (w : World) (hB : RdSl 2 RPt w A n bs) (hn : n ≤ 100000) (hC : TellsP g w f caps del bs) :
    Calls Try.prog 71 #[.slice A n c, .func (.func f) #[] caps] w (FirstN w n (delAtG del bs)) := by
  have hCH := Lib.hid hC
  clear hC
  go_enter Try.func71, Try.ntmps71
  go_wp2
  go_loopg [8] n (fun r x wr => ∃ k : Nat, k + r = n ∧ x = .int .i64 (k : Int) ∧ Hid (∀ j, j < k → delAtG del bs j = false) ∧ Below w.heap.size w wr)
  case atStart => exact ⟨0, by omega, rfl, Lib.hid (fun j hj => by omega), bl_refl _⟩
  case round =>
    obtain ⟨k, hk, rfl, hno, hbw⟩ := hrel
    have hB' := hB.below RPt.stable hbw
    by_cases hkn : k < n
    · obtain ⟨b, o, rfl, hb, hc⟩ := hB'.ptr (by omega)
      obtain ⟨e, he⟩ := hB.get hkn
      obtain ⟨c0, c1⟩ := hc k e he
      have hd := delAtG_eq (del := del) he
      have hem := Lib.hid (List.mem_of_getElem? he)
      cases hv : del e
      · have hdH := Lib.hid (hd.trans hv)
        have hvH := Lib.hid hv
        clear hc he hB hB' hd hv
        go_wp2_with fail
        refine (hCH.out _ e (Gb.of_below hbw) hem.out).mono ?_
        rw [hvH.out]
        rintro e' w1 ⟨rfl, hb1⟩
        go_wp2
        go_roundg (n - (k + 1))
        case measure => omega
        case rel => exact ⟨k + 1, by omega, by go_num, Lib.hid (fun j hj => by
          rcases Nat.lt_succ_iff_lt_or_eq.1 hj with hj | rfl
          · exact hno.out j hj
          · exact hdH.out), bl_tr hbw hb1⟩
      · have hdH := Lib.hid (hd.trans hv)
        have hvH := Lib.hid hv
        clear hc he hB hB' hd hv
        go_wp2_with fail
        refine (hCH.out _ e (Gb.of_below hbw) hem.out).mono ?_
        rw [hvH.out]
        rintro e' w1 ⟨rfl, hb1⟩
        go_wp2
        go_ret
        exact ⟨Or.inr ⟨k, hkn, rfl, hdH.out, hno.out⟩, bl_tr hbw hb1⟩
    · obtain rfl : k = n := by omega
      clear hB'
      go_wp2
      go_ret
      exact ⟨Or.inl ⟨rfl, hno.out⟩, hbw⟩
theorem run_clear_rowsQ {P : Program} (w : World) (t e ty : TypeId) (z : Value) (ht : P.underlying t = some (.slice e)) (hv : ∀ w, (zeroValue e).run P w = .ok z w) (b o n c : Nat) (hn : 0 < n)
    (hc : ∀ j, j < n * z.cells.size → (w.cell? ⟨b, o + j, none⟩).isSome = true) (hf : ∀ j, j < n * z.cells.size → w.frozen? ⟨b, o + j, none⟩ = false) (h1 : ∀ u ∈ (Builtin.zeroCells z.cells n).toList, u.oneCell' = true) :
    (Builtin.clear_ #[t] ty #[.slice (some ⟨b, o, none⟩) n c]).run P w = .ok (.tuple #[]) (w.setCells b o (Builtin.zeroCells z.cells n).toList) := by
  have hlen : (Builtin.zeroCells z.cells n).toList.length = n * z.cells.size := by simp [size_zeroCells]
  have hst := run_storeCells_cells (P := P) b o (Builtin.zeroCells z.cells n).toList 0 w (by rw [hlen]; simpa using hc) (by rw [hlen]; simpa using hf) h1
  simp only [Nat.add_zero] at hst
  obtain ⟨m, rfl⟩ : ∃ m, n = m + 1 := ⟨n - 1, by omega⟩
  simp [Builtin.clear_, run_underlying ht, hv, hst]
theorem zero2Q (n : Nat) : ∀ u ∈ (Builtin.zeroCells #[Value.int .i64 0, .int .i64 0] n).toList, u.oneCell' = true := by
  intro u hu
  simp only [Builtin.zeroCells, Array.toList_map, List.mem_map] at hu
  obtain ⟨i, _, rfl⟩ := hu
  have : i % 2 = 0 ∨ i % 2 = 1 := by omega
  rcases this with h | h <;> simp [h] <;> rfl
def keepG {α : Type} (del : α → Bool) (bs : List α) (k : Nat) : List α := (bs.take k).filter fun b => !del b
section
variable {α : Type} {del : α → Bool} {bs : List α} {k : Nat}
theorem keepG_succ_yes {e : α} (he : bs[k]? = some e) (h : del e = false) : keepG del bs (k + 1) = keepG del bs k ++ [e] := by
  obtain ⟨hk, rfl⟩ := List.getElem?_eq_some_iff.1 he
  unfold keepG; rw [List.take_succ_eq_append_getElem hk, List.filter_append]; simp [h]
theorem keepG_succ_no {e : α} (he : bs[k]? = some e) (h : del e = true) : keepG del bs (k + 1) = keepG del bs k := by
  obtain ⟨hk, rfl⟩ := List.getElem?_eq_some_iff.1 he
  unfold keepG; rw [List.take_succ_eq_append_getElem hk, List.filter_append]; simp [h]
theorem keepG_len (del : α → Bool) (bs : List α) (k : Nat) : (keepG del bs k).length ≤ k := Nat.le_trans (List.length_filter_le _ _) (List.length_take_le _ _)
theorem keepG_all (h : ∀ j, j < k → delAtG del bs j = false) : keepG del bs k = bs.take k := by
  unfold keepG
  rw [List.filter_eq_self]
  intro b hb
  obtain ⟨j, hj, rfl⟩ := List.mem_iff_getElem.1 hb
  have hj' : j < k ∧ j < bs.length := by simp at hj; omega
  have := h j hj'.1
  rw [delAtG_eq (List.getElem?_eq_getElem hj'.2)] at this
  simpa using this
end
/-- what is left of a row of points -/
def DelPt (base g : Nat) (w : World) (l : List Pt) (e : Ending) (w' : World) : Prop := ∃ c, e = .returned (.slice (some ⟨g, 0, none⟩) l.length c) ∧ w'.ownsRow base 52 2 (.slice (some ⟨g, 0, none⟩) l.length c) l.length (ptCells l) ∧ Gb g w w'
theorem DelPt.of {base g n : Nat} {w w' : World} {l : List Pt} {c : Nat} (hn : n = l.length) (h : w'.ownsRow base 52 2 (.slice (some ⟨g, 0, none⟩) n c) n (ptCells l)) (hb : Gb g w w') : DelPt base g w l (.returned (.slice (some ⟨g, 0, none⟩) n c)) w' := by
  subst hn; exact ⟨c, rfl, h, hb⟩
theorem owns_of_rowQ {w : World} {g T N base cap size n : Nat} {f : Nat → Value} {xs : List Value} (h : w.rowIs g T N f) (hN : N = cap * size) (hb : base ≤ g) (hn : n ≤ cap) (hm : cap ≤ maxLen) (hl : xs.length = n * size) (hx : ∀ j u, xs[j]? = some u → w.cell? ⟨g, j, none⟩ = some u) : w.ownsRow base T size (.slice (some ⟨g, 0, none⟩) n cap) n xs := by
  obtain ⟨cur, hh, hs, hi⟩ := h
  refine ⟨hl, .inr ⟨g, cap, cur, rfl, hb, hh, hn, hm, hs.trans hN, ?_⟩⟩
  apply List.ext_getElem?
  intro j
  by_cases hj : j < n * size
  · obtain ⟨u, hu⟩ : ∃ u, xs[j]? = some u := ⟨_, List.getElem?_eq_getElem (by omega)⟩
    have := hx j u hu
    simp only [World.cell?, hh] at this
    rw [List.getElem?_take_of_lt hj, Array.getElem?_toList, hu]
    simpa using this
  · rw [List.getElem?_take_eq_none (by omega), List.getElem?_eq_none (by omega)]
set_option maxRecDepth 100000 in
set_option maxHeartbeats 4000000 in
theorem DeleteFuncG_any (base g cap : Nat) (f : FuncId) (caps : Array Value) (eg : ∀ args w, (callFunc f args).run Try.prog w = .ok (.enter f args) w) (del : Pt → Bool) (bs : List Pt) (w : World) (hrow : w.ownsRow base 52 2 (.slice (some ⟨g, 0, none⟩) bs.length cap) bs.length (ptCells bs)) (hn : bs.length ≤ 100000) (hC : TellsP g w f caps del bs) :
    Calls Try.prog 42 #[.slice (some ⟨g, 0, none⟩) bs.length cap, .func (.func f) #[] caps] w (DelPt base g w (keepG del bs bs.length)) := by
  have rdb : RdSl 2 RPt w (some ⟨g, 0, none⟩) bs.length bs := by
    obtain ⟨A, c, e, hr⟩ := rdPt_of_row hrow
    injection e with e1
    subst e1
    exact hr
  obtain ⟨n, hnn⟩ : ∃ n, bs.length = n := ⟨_, rfl⟩
  rw [hnn] at hn rdb hrow
  rw [hnn]
  have hnnH := Lib.hid hnn
  have hCH := Lib.hid hC
  clear hnn hC
  go_enter Try.func42, Try.ntmps42
  go_wp2_with fail
  refine (IndexFuncG_any g f caps eg del _ n cap bs _ rdb hn hCH.out).mono ?_
  rintro e w1 ⟨(⟨rfl, hall⟩ | ⟨k, hkn, rfl, hdk, hall⟩), hb1⟩
  · have hallH := Lib.hid hall
    have rdH := Lib.hid (ownsRow_below hrow hb1)
    have hK := keepG_all (del := del) (bs := bs) (k := n) hall
    rw [List.take_of_length_le (by rw [hnnH.out]; exact Nat.le_refl _)] at hK
    have hKH := Lib.hid hK
    have hb1H := Lib.hid hb1
    clear hall rdb hrow hK hb1
    go_wp2
    go_ret
    rw [hKH.out]
    exact DelPt.of hnnH.out.symm rdH.out (Gb.of_below hb1H.out)
  · have hk1 : ¬ ((k : Int) = -1) := by omega
    have hk1' : ((k : Int) == -1) = false := by simp
    rcases hrow.2 with ⟨h0, h0'⟩ | ⟨g', cap', cur, hv, hb, hh, hnc, hm, hs, ht⟩
    · omega
    obtain ⟨rfl, rfl⟩ : g = g' ∧ cap = cap' := by injection hv with a1 a2 a3; injection a1 with a1; injection a1 with a1; exact ⟨a1, a3⟩
    have hgl : g < w.heap.size := (Array.getElem?_eq_some_iff.1 hh).1
    have hh1 := (hb1.block g hgl).trans hh
    have hrow1 : w1.rowIs g 52 (cap * 2) (fun i => cur.getD i undef) := by
      refine ⟨cur, hh1, hs, fun i hi => ?_⟩
      have : i < cur.size := by omega
      simp [this]
    have hget : ∀ q b, bs[q]? = some b → q < n → cur.getD (q * 2) undef = .int .i64 b.x ∧ cur.getD (q * 2 + 1) undef = .int .i64 b.y := by
      intro q b hq hqn
      obtain ⟨x0, x1⟩ := ptCells_get bs q b hq
      rw [← ht, List.getElem?_take_of_lt (by omega)] at x0 x1
      simp only [Array.getElem?_toList] at x0 x1
      simp [Array.getD_eq_getD_getElem?, x0, x1]
    have hkeep0 := keepG_all (del := del) (bs := bs) (k := k) hall
    obtain ⟨ek, hek⟩ : ∃ e, bs[k]? = some e := ⟨_, List.getElem?_eq_getElem (by rw [hnnH.out]; exact hkn)⟩
    have hkeep1 := keepG_succ_no (del := del) hek (by rw [← delAtG_eq (del := del) hek]; exact hdk)
    have hkl : k = (keepG del bs (k + 1)).length := by rw [hkeep1, hkeep0]; simp; rw [hnnH.out]; omega
    obtain ⟨F0, hF0⟩ : ∃ F : Nat → Pt, ∀ q b, bs[q]? = some b → F q = b := ⟨fun q => match bs[q]? with | some b => b | none => ⟨0, 0⟩, fun q b h => by simp only [h]⟩
    have hst : Hid (k = (keepG del bs (k + 1)).length ∧ (∀ q b, (keepG del bs (k + 1))[q]? = some b → F0 q = b) ∧ (∀ q b, k + 1 ≤ q → bs[q]? = some b → F0 q = b)) := by
      refine Lib.hid ⟨hkl, fun q b hq => ?_, fun q b _ hq => hF0 q b hq⟩
      rw [hkeep1, hkeep0, List.getElem?_take] at hq
      split at hq
      · exact hF0 q b hq
      · cases hq
    have hf0 : Hid (∀ q, q < n → (fun i => cur.getD i undef) (q * 2) = .int .i64 (F0 q).x ∧ (fun i => cur.getD i undef) (q * 2 + 1) = .int .i64 (F0 q).y) := Lib.hid fun q hq => by
      obtain ⟨b, hqb⟩ : ∃ b, bs[q]? = some b := ⟨_, List.getElem?_eq_getElem (by rw [hnnH.out]; exact hq)⟩
      rw [hF0 q b hqb]
      exact hget q b hqb hq
    have hB1 := Lib.hid (Gb.of_below (g := g) hb1)
    have hbg := hb
    have hmO := Lib.hid hm
    clear hkl hF0 hget hkeep0 hkeep1 hek hall rdb hrow hh hh1 hs ht hv hb1 hdk
    go_wp2
    go_loopg [5, 6] (n - (k + 1)) (fun r x y wr => ∃ (i j : Nat) (F : Nat → Pt) (f' : Nat → Value), j + r = n ∧ i < j ∧ x = .int .i64 (i : Int) ∧ y = .int .i64 (j : Int) ∧ Hid (i = (keepG del bs j).length ∧ (∀ q b, (keepG del bs j)[q]? = some b → F q = b) ∧ (∀ q b, j ≤ q → bs[q]? = some b → F q = b)) ∧ wr.rowIs g 52 (cap * 2) f' ∧ Hid (∀ q, q < n → f' (q * 2) = .int .i64 (F q).x ∧ f' (q * 2 + 1) = .int .i64 (F q).y) ∧ Hid (Gb g w wr))
    case atStart => exact ⟨k, k + 1, F0, _, by omega, by omega, rfl, by go_num, hst, hrow1, hf0, hB1⟩
    case round =>
      obtain ⟨i, j, F, f', hj, hij, rfl, rfl, hst', hrw, hf, hbw⟩ := hrel
      clear hst hf0 hrow1
      have hgw : g < wr.heap.size := hrw.lt
      by_cases hlt : j < n
      · obtain ⟨e, he⟩ : ∃ e, bs[j]? = some e := ⟨_, List.getElem?_eq_getElem (by rw [hnnH.out]; exact hlt)⟩
        have hFj := hst'.out.2.2 j e (Nat.le_refl _) he
        obtain ⟨v0, v1⟩ := hf.out j hlt
        rw [hFj] at v0 v1
        have c0 := hrw.cell (i := j * 2) (by omega)
        have c1 := hrw.cell (i := j * 2 + 1) (by omega)
        rw [v0] at c0
        rw [v1] at c1
        have heH := Lib.hid he
        have hrwH := Lib.hid hrw
        clear v0 v1 hFj he hrw
        cases hcd : del e
        · have hnx := Lib.hid (keepG_succ_yes heH.out hcd)
          have hcdH := Lib.hid hcd
          clear hcd
          go_wp2_with fail
          refine (hCH.out _ e (hbw.out.below (by exact bel_)) (List.mem_of_getElem? heH.out)).mono ?_
          rw [hcdH.out]
          rintro e' w2 ⟨rfl, hb2⟩
          have hrw2 := hrwH.out.of_block ((hb2.block g (by simp; omega)).trans (Below.heap_alloc _ _ _ hgw))
          have d0 := hrw2.cell (i := i * 2) (by omega)
          have d1 := hrw2.cell (i := i * 2 + 1) (by omega)
          have k0 := hrw2.frozen (i * 2)
          have k1 := hrw2.frozen (i * 2 + 1)
          have x0 : w2.cell? ⟨wr.heap.size, 0, none⟩ = some (.int .i64 e.x) := (hb2.cell (p := ⟨wr.heap.size, 0, none⟩) (by simp)).trans (by go_simp)
          have x1 : w2.cell? ⟨wr.heap.size, 1, none⟩ = some (.int .i64 e.y) := (hb2.cell (p := ⟨wr.heap.size, 1, none⟩) (by simp)).trans (by go_simp)
          have hB2H := Lib.hid (hbw.out.below (bl_tr (bl_al (bl_refl _) _) hb2))
          have hs2 := hb2.size
          simp at hs2
          have hrw2H := Lib.hid hrw2
          have hin : i < n := by omega
          clear c0 c1 hb2 hrw2
          go_wp2
          go_roundg (n - (j + 1))
          case measure => omega
          case rel => exact ⟨i + 1, j + 1, fun q => if q = i then e else F q, _, by omega, by omega, by go_num, by go_num, Lib.hid ⟨by
              rw [hnx.out, List.length_append, ← hst'.out.1]; rfl, fun q b hq => by
              rw [hnx.out] at hq
              have hil := hst'.out.1
              rcases Nat.lt_or_ge q i with hqi | hqi
              · rw [List.getElem?_append_left (by omega)] at hq
                show (if q = i then e else F q) = b
                rw [if_neg (by omega)]; exact hst'.out.2.1 q b hq
              · rw [List.getElem?_append_right (by omega)] at hq
                have : q - (keepG del bs j).length = 0 := by
                  rcases Nat.eq_zero_or_pos (q - (keepG del bs j).length) with h0 | h0
                  · exact h0
                  · rw [List.getElem?_eq_none (by simp; omega)] at hq; cases hq
                rw [this] at hq
                show (if q = i then e else F q) = b
                rw [if_pos (by omega)]; simpa using hq, fun q b hq hb => by
              show (if q = i then e else F q) = b
              rw [if_neg (by omega)]; exact hst'.out.2.2 q b (by omega) hb⟩, (hrw2H.out.set (i * 2) _).set (i * 2 + 1) _, Lib.hid (fun q hq => by
              obtain ⟨u0, u1⟩ := hf.out q hq
              by_cases hqi : q = i
              · subst hqi
                simp
              · rw [if_neg (by omega), if_neg (by omega), if_neg (by omega), if_neg (by omega)]
                show f' (q * 2) = Value.int .i64 (if q = i then e else F q).x ∧ f' (q * 2 + 1) = Value.int .i64 (if q = i then e else F q).y
                rw [if_neg hqi]
                exact ⟨u0, u1⟩), Lib.hid ((hB2H.out.set (i * 2) _).set (i * 2 + 1) _)⟩
        · have hnx := Lib.hid (keepG_succ_no heH.out hcd)
          have hcdH := Lib.hid hcd
          clear hcd
          go_wp2_with fail
          refine (hCH.out _ e (hbw.out.below (by exact bel_)) (List.mem_of_getElem? heH.out)).mono ?_
          rw [hcdH.out]
          rintro e' w2 ⟨rfl, hb2⟩
          have hrw2 := hrwH.out.of_block ((hb2.block g (by simp; omega)).trans (Below.heap_alloc _ _ _ hgw))
          have hB2H := Lib.hid (hbw.out.below (bl_tr (bl_al (bl_refl _) _) hb2))
          have hrw2H := Lib.hid hrw2
          clear c0 c1 hb2 hrw2
          go_wp2
          go_roundg (n - (j + 1))
          case measure => omega
          case rel => exact ⟨i, j + 1, F, _, by omega, by omega, rfl, by go_num, Lib.hid ⟨by rw [hnx.out]; exact hst'.out.1, fun q b hq => by rw [hnx.out] at hq; exact hst'.out.2.1 q b hq, fun q b hq hb => hst'.out.2.2 q b (by omega) hb⟩, hrw2H.out, hf, hB2H⟩
      · obtain rfl : j = n := by omega
        have hcl := fun (ty : TypeId) => run_clear_rowsQ (P := Try.prog) wr 27 52 ty _ Try.underlying27 Try.zeroValue52 g (i * 2) (j - i) (cap - i) (by omega) (fun q hq => by rw [hrw.cell (i := i * 2 + q) (by simp [Value.cells] at hq; omega)]; rfl) (fun q hq => hrw.frozen _) (zero2Q _)
        have hci : ¬ cap = i := by omega
        go_wp2
        go_ret
        obtain ⟨zs, hzs⟩ : ∃ zs, (Builtin.zeroCells #[Value.int .i64 0, Value.int .i64 0] (j - i)).toList = zs := ⟨_, rfl⟩
        rw [hzs]
        have hrw3 := Go.rowIs_setCells zs (i * 2) wr f' hrw
        have hil := hst'.out.1
        have hfin := hst'.out.2.1
        refine DelPt.of hil (owns_of_rowQ hrw3 rfl hbg (by omega) hmO.out (by rw [ptCells_len, hil]) (fun q u hq => ?_)) (hbw.out.sets (i * 2) zs)
        have hqlt := lt_of_get hq
        rw [ptCells_len] at hqlt
        obtain ⟨e, he⟩ : ∃ e, (keepG del bs j)[q / 2]? = some e := ⟨_, List.getElem?_eq_getElem (by omega)⟩
        have hFq := hfin (q / 2) e he
        obtain ⟨u0, u1⟩ := hf.out (q / 2) (by omega)
        obtain ⟨y0, y1⟩ := ptCells_get _ (q / 2) e he
        rw [hFq] at u0 u1
        rw [hrw3.cell (i := q) (by omega), if_neg (by omega)]
        rcases (show q % 2 = 0 ∨ q % 2 = 1 by omega) with h2 | h2
        · have e1 : q / 2 * 2 = q := by omega
          rw [e1] at u0 y0
          rw [u0, ← y0, hq]
        · have e1 : q / 2 * 2 + 1 = q := by omega
          rw [e1] at u1 y1
          rw [u1, ← y1, hq]
end Go.Proofs.Ytkfjojpohcieeaa
/- Walk: slices.Compact at a row of points that a call has made. -/



namespace Go.Proofs.Ytkfjojpohcieeaa
open Go.RowKit Go.Shelf
attribute [local go_sem] BelowBy.cell BelowBy.cell_drew stillUpon givesUpon BelowBy.cell_drew2 BelowBy.cell_drew3

/-- the first of each run of equal points; q went before -/
def dedP : Option Pt → List Pt → List Pt
  | _, [] => []
  | q, a :: l => if q = some a then dedP (some a) l else a :: dedP (some a) l
theorem compact_ded (l : List Pt) : ∀ a : Pt, compactP (a :: l) = a :: dedP (some a) l := by
  induction l with
  | nil => intro a; rfl
  | cons b m ih =>
    intro a
    unfold compactP dedP
    by_cases h : a = b
    · subst h
      rw [if_pos rfl, if_pos rfl, ih]
    · have h2 : ¬ (some a = some b) := fun e => h (Option.some.inj e)
      rw [if_neg h, if_neg h2, ih]
theorem ded_compact (l : List Pt) : dedP none l = compactP l := by
  cases l with
  | nil => rfl
  | cons a l =>
    rw [compact_ded]
    show (if (none : Option Pt) = some a then dedP (some a) l else a :: dedP (some a) l) = _
    rw [if_neg (by simp)]
def lastQ (q : Option Pt) (L : List Pt) : Option Pt := match L.getLast? with
  | some a => some a
  | none => q
theorem ded_snoc (e : Pt) (L : List Pt) : ∀ q, dedP q (L ++ [e]) = dedP q L ++ (if lastQ q L = some e then [] else [e]) := by
  induction L with
  | nil =>
    intro q
    show dedP q [e] = [] ++ (if q = some e then [] else [e])
    unfold dedP
    split <;> simp [dedP]
  | cons a l ih =>
    intro q
    have hl : lastQ q (a :: l) = lastQ (some a) l := by
      unfold lastQ
      cases l with
      | nil => rfl
      | cons b m => rw [List.getLast?_cons_cons]; cases h : (b :: m).getLast? <;> simp_all
    rw [hl, List.cons_append]
    unfold dedP
    split
    · rw [ih]
    · rw [ih]; rfl
/-- of the first k -/
def keepD (bs : List Pt) (k : Nat) : List Pt := dedP none (bs.take k)
section
variable {bs : List Pt} {k : Nat} {d e : Pt}
theorem keepD_snoc (hk : bs[k]? = some e) : keepD bs (k + 1) = keepD bs k ++ (if lastQ none (bs.take k) = some e then [] else [e]) := by
  obtain ⟨hk', rfl⟩ := List.getElem?_eq_some_iff.1 hk
  unfold keepD; rw [List.take_succ_eq_append_getElem hk', ded_snoc]
theorem lastQ_take (hd : bs[k]? = some d) : lastQ none (bs.take (k + 1)) = some d := by
  obtain ⟨hk', rfl⟩ := List.getElem?_eq_some_iff.1 hd
  unfold lastQ; rw [List.take_succ_eq_append_getElem hk', List.getLast?_append]; simp
theorem keepD_one (h0 : bs[0]? = some e) : keepD bs 1 = [e] := by
  rw [keepD_snoc h0]; unfold keepD lastQ; simp [dedP]
theorem keepD_yes (hd : bs[k]? = some d) (he : bs[k + 1]? = some e) (h : e ≠ d) : keepD bs (k + 2) = keepD bs (k + 1) ++ [e] := by
  rw [keepD_snoc he, lastQ_take hd, if_neg (fun x => h (Option.some.inj x).symm)]
theorem keepD_no (hd : bs[k]? = some d) (he : bs[k + 1]? = some e) (h : e = d) : keepD bs (k + 2) = keepD bs (k + 1) := by
  rw [keepD_snoc he, lastQ_take hd, if_pos (by rw [h]), List.append_nil]
theorem keepD_len (bs : List Pt) : ∀ k, (keepD bs k).length ≤ k := by
  have : ∀ (l : List Pt) q, (dedP q l).length ≤ l.length := by
    intro l
    induction l with
    | nil => intro q; exact Nat.le_refl _
    | cons a l ih =>
      intro q; unfold dedP
      split
      · exact Nat.le_trans (ih _) (by simp)
      · simp only [List.length_cons]; have := ih (some a); omega
  exact fun k => Nat.le_trans (this _ _) (List.length_take_le _ _)
theorem keepD_all (bs : List Pt) : keepD bs bs.length = compactP bs := by unfold keepD; rw [List.take_length, ded_compact]
end
theorem pt_cases (e d : Pt) : e = d ∨ (e.x = d.x ∧ (e.y == d.y) = false) ∨ (e.x == d.x) = false := by
  by_cases hx : e.x = d.x
  · by_cases hy : e.y = d.y
    · left; cases e; cases d; simp only at hx hy; subst hx; subst hy; rfl
    · right; left; exact ⟨hx, by simpa using hy⟩
  · right; right; simpa using hx
set_option maxHeartbeats 1000000 in
theorem CompactNil_any (c : Nat) (w : World) :
    Calls Try.prog 93 #[.slice none 0 c] w fun e w' => e = .returned (.slice none 0 c) ∧ Below w.heap.size w w' := by
  go_enter Try.func93, Try.ntmps93
  go_wp2
  go_ret
  exact ⟨rfl, bl_refl _⟩
set_option maxRecDepth 100000 in
set_option maxHeartbeats 4000000 in
theorem CompactPt_any (base g cap : Nat) (bs : List Pt) (w : World) (hrow : w.ownsRow base 52 2 (.slice (some ⟨g, 0, none⟩) bs.length cap) bs.length (ptCells bs)) (hn0 : 0 < bs.length) (hn : bs.length ≤ 100000) :
    Calls Try.prog 93 #[.slice (some ⟨g, 0, none⟩) bs.length cap] w (DelPt base g w (compactP bs)) := by
  rw [← keepD_all bs]
  have rdb : RdSl 2 RPt w (some ⟨g, 0, none⟩) bs.length bs := by
    obtain ⟨A, c, e, hr⟩ := rdPt_of_row hrow
    injection e with e1
    subst e1
    exact hr
  obtain ⟨n, hnn⟩ : ∃ n, bs.length = n := ⟨_, rfl⟩
  rw [hnn] at hn0 hn rdb hrow
  rw [hnn]
  have hnnH := Lib.hid hnn
  have rowH := Lib.hid hrow
  have rdH := Lib.hid rdb
  obtain ⟨b0, hb0⟩ : ∃ e, bs[0]? = some e := ⟨_, List.getElem?_eq_getElem (by rw [hnn]; exact hn0)⟩
  have hk1 := Lib.hid (show keepD bs 1 = bs.take 1 by rw [keepD_one hb0]; cases bs with
    | nil => cases hb0
    | cons a l => simp at hb0; subst hb0; rfl)
  rcases hrow.2 with ⟨h0, h0'⟩ | ⟨g', cap', cur, hv, hb, hh, hnc, hm, hs, ht⟩
  · omega
  obtain ⟨rfl, rfl⟩ : g = g' ∧ cap = cap' := by injection hv with a1 a2 a3; injection a1 with a1; injection a1 with a1; exact ⟨a1, a3⟩
  have hgl : g < w.heap.size := (Array.getElem?_eq_some_iff.1 hh).1
  have hrow1 : w.rowIs g 52 (cap * 2) (fun i => cur.getD i undef) := by
    refine ⟨cur, hh, hs, fun i hi => ?_⟩
    have : i < cur.size := by omega
    simp [this]
  have hget : ∀ q b, bs[q]? = some b → q < n → cur.getD (q * 2) undef = .int .i64 b.x ∧ cur.getD (q * 2 + 1) undef = .int .i64 b.y := by
    intro q b hq hqn
    obtain ⟨x0, x1⟩ := ptCells_get bs q b hq
    rw [← ht, List.getElem?_take_of_lt (by omega)] at x0 x1
    simp only [Array.getElem?_toList] at x0 x1
    simp [Array.getD_eq_getD_getElem?, x0, x1]
  obtain ⟨F0, hF0⟩ : ∃ F : Nat → Pt, ∀ q b, bs[q]? = some b → F q = b := ⟨fun q => match bs[q]? with | some b => b | none => ⟨0, 0⟩, fun q b h => by simp only [h]⟩
  have hf0 : Hid (∀ q, q < n → (fun i => cur.getD i undef) (q * 2) = .int .i64 (F0 q).x ∧ (fun i => cur.getD i undef) (q * 2 + 1) = .int .i64 (F0 q).y) := Lib.hid fun q hq => by
    obtain ⟨b, hqb⟩ : ∃ b, bs[q]? = some b := ⟨_, List.getElem?_eq_getElem (by rw [hnnH.out]; exact hq)⟩
    rw [hF0 q b hqb]
    exact hget q b hqb hq
  have hF0H := Lib.hid hF0
  have hrow1H := Lib.hid hrow1
  have hmO := Lib.hid hm
  have hbg := Lib.hid hb
  have hptn : ∀ q, q < n → ∃ e, bs[q]? = some e := fun q hq => ⟨_, List.getElem?_eq_getElem (by rw [hnnH.out]; exact hq)⟩
  have hptH := Lib.hid hptn
  clear rdb hrow hnn hb0 hb hh hm hs ht hget hF0 hrow1 hv hptn
  by_cases hn2 : n < 2
  · obtain rfl : n = 1 := by omega
    go_enter Try.func93, Try.ntmps93
    go_wp2
    go_ret
    refine DelPt.of ?_ ?_ (Gb.refl g w)
    · rw [hk1.out, List.length_take, hnnH.out]; rfl
    · rw [hk1.out, List.take_of_length_le (by rw [hnnH.out]; exact Nat.le_refl _)]; exact rowH.out
  · go_enter Try.func93, Try.ntmps93
    go_wp2
    go_loopg [3] (n - 1) (fun r x wr => ∃ k : Nat, k + r = n ∧ 1 ≤ k ∧ x = .int .i64 (k : Int) ∧ Hid (keepD bs k = bs.take k) ∧ Hid (Below w.heap.size w wr))
    case atStart => exact ⟨1, by omega, by omega, by go_num, hk1, Lib.hid (bl_refl _)⟩
    case round =>
      obtain ⟨k, hk, hk0, rfl, hkeep, hbw⟩ := hrel
      obtain ⟨j, hkj⟩ : ∃ j, k = j + 1 := ⟨k - 1, by omega⟩
      have hrw := hrow1H.out.of_block (hbw.out.block g hgl)
      have hgw : g < wr.heap.size := hrw.lt
      by_cases hlt : k < n
      · obtain ⟨e, he⟩ := hptH.out k hlt
        obtain ⟨d, hd⟩ := hptH.out j (by omega)
        obtain ⟨v0, v1⟩ := hf0.out k hlt
        obtain ⟨u0, u1⟩ := hf0.out j (by omega)
        rw [hF0H.out _ _ he] at v0 v1
        rw [hF0H.out _ _ hd] at u0 u1
        have c0 := hrw.cell (i := k * 2) (by omega)
        have c1 := hrw.cell (i := k * 2 + 1) (by omega)
        have d0 := hrw.cell (i := j * 2) (by omega)
        have d1 := hrw.cell (i := j * 2 + 1) (by omega)
        rw [v0] at c0
        rw [v1] at c1
        rw [u0] at d0
        rw [u1] at d1
        have hgm : (k : Int) - 1 = (j : Int) := by omega
        have hwr : IntKind.i64.wrap (j : Int) = (j : Int) := wrap_in (by omega) (by omega)
        have hjn : j < n := by omega
        have hjn2 : (j : Int) < (n : Int) := by omega
        have hkn2 : (k : Int) < (n : Int) := by omega
        have hkjH := Lib.hid hkj
        have heH := Lib.hid (show bs[j + 1]? = some e by rw [← hkj]; exact he)
        have hdH := Lib.hid hd
        have hrwH := Lib.hid hrw
        have hkeepH := Lib.hid (show keepD bs (j + 1) = bs.take (j + 1) by rw [← hkj]; exact hkeep.out)
        have htk := Lib.hid (show bs.take (k + 1) = bs.take (j + 1) ++ [e] by rw [List.take_add_one, he, hkj]; rfl)
        clear v0 v1 u0 u1 he hd hrw hkj hkeep
        rcases pt_cases e d with rfl | ⟨hx, hy⟩ | hx
        · have hnx := Lib.hid (keepD_no hdH.out heH.out rfl)
          have hil := Lib.hid (show k = (keepD bs (k + 1)).length by rw [hkjH.out, hnx.out, hkeepH.out, List.length_take, hnnH.out]; have := hkjH.out; omega)
          have hst : Hid (k = (keepD bs (k + 1)).length ∧ (∀ q b, (keepD bs (k + 1))[q]? = some b → F0 q = b) ∧ (∀ q b, k ≤ q → bs[q]? = some b → F0 q = b)) := by
            refine Lib.hid ⟨hil.out, fun q b hq => ?_, fun q b _ hq => hF0H.out q b hq⟩
            rw [hkjH.out, hnx.out, hkeepH.out, List.getElem?_take] at hq
            split at hq
            · exact hF0H.out q b hq
            · cases hq
          have hbwO := hbw.out
          have hrwO := hrwH.out
          obtain ⟨wo, hwo⟩ : ∃ wo : World, wo = wr := ⟨_, rfl⟩
          subst hwo
          go_wp2
          refine wp_region_ord [(0, .q), (1, .q), (2, .q), (3, .q), (4, .q), (5, .q), (6, .q), (7, .q), (8, .q), (9, .q)] (by kernel_rfl) (by kernel_rfl) ?_
          simp only [pick, List.filterMap_cons, List.filterMap_nil, List.getElem?_toArray, List.getElem?_cons_zero, List.getElem?_cons_succ, Option.map_some]
          repeat (first
            | ((with_reducible refine wpD_p (fun K hK => ?_)); go_simp; refine hK _ ?_; clear hK K)
            | ((with_reducible refine wpD_q (fun K hK => ?_)); go_simp; (first | refine hK _ ?_ | (go_bits; refine hK _ ?_) | (go_bits; go_simp; refine hK _ ?_)); clear hK K)
            | ((with_reducible refine wpD_g (fun K hK => ?_)); go_simp; refine hK _ _ ?_; clear hK K)
            | ((with_reducible refine wpD_g (fun K hK => ?_)); go_simp; refine ⟨Grew.of_alloc _, hK _ _ ?_⟩; clear hK K))
          with_reducible refine wpD_nil ?_
          go_wp2
          clear c0 c1 d0 d1
          go_loopg [3, 5] (n - (k + 1)) (fun r x y wz => ∃ (i j m : Nat) (F : Nat → Pt) (f' : Nat → Value), j + r = n ∧ i < j ∧ k + m = j ∧ 1 ≤ m ∧ x = .int .i64 (i : Int) ∧ y = .int .i64 (m : Int) ∧ Hid (i = (keepD bs j).length ∧ (∀ q b, (keepD bs j)[q]? = some b → F q = b) ∧ (∀ q b, j - 1 ≤ q → bs[q]? = some b → F q = b)) ∧ wz.rowIs g 52 (cap * 2) f' ∧ Hid (∀ q, q < n → f' (q * 2) = .int .i64 (F q).x ∧ f' (q * 2 + 1) = .int .i64 (F q).y) ∧ Hid (Gb g w wz))
          case atStart => exact ⟨k, k + 1, 1, F0, _, by omega, by omega, by omega, by omega, rfl, by go_num, hst, hrwO, hf0, Lib.hid (Gb.of_below (by exact bel_))⟩
          case round =>
            clear hrwO hbwO hst
            obtain ⟨i, t, m, F, f', hj, hij, hm, hm1, rfl, rfl, hst', hrz, hf, hbz⟩ := hrel
            obtain ⟨mp, hmp⟩ : ∃ mp, m = mp + 1 := ⟨m - 1, by omega⟩
            have hgz : g < wr.heap.size := hrz.lt
            by_cases hlt2 : t < n
            · obtain ⟨e1, he1⟩ := hptH.out t hlt2
              obtain ⟨d1, hd1⟩ := hptH.out (k + mp) (by omega)
              obtain ⟨v0, v1⟩ := hf.out t hlt2
              obtain ⟨u0, u1⟩ := hf.out (k + mp) (by omega)
              rw [hst'.out.2.2 _ _ (by omega) he1] at v0 v1
              rw [hst'.out.2.2 _ _ (by omega) hd1] at u0 u1
              have c0 := hrz.cell (i := k * 2 + m * 2) (by omega)
              have c1 := hrz.cell (i := k * 2 + m * 2 + 1) (by omega)
              have d0 := hrz.cell (i := k * 2 + mp * 2) (by omega)
              have d2 := hrz.cell (i := k * 2 + mp * 2 + 1) (by omega)
              rw [show k * 2 + m * 2 = t * 2 by omega, v0, ← show k * 2 + m * 2 = t * 2 by omega] at c0
              rw [show k * 2 + m * 2 + 1 = t * 2 + 1 by omega, v1, ← show k * 2 + m * 2 + 1 = t * 2 + 1 by omega] at c1
              rw [show k * 2 + mp * 2 = (k + mp) * 2 by omega, u0, ← show k * 2 + mp * 2 = (k + mp) * 2 by omega] at d0
              rw [show k * 2 + mp * 2 + 1 = (k + mp) * 2 + 1 by omega, u1, ← show k * 2 + mp * 2 + 1 = (k + mp) * 2 + 1 by omega] at d2
              have hgm : (m : Int) - 1 = (mp : Int) := by omega
              have hwr : IntKind.i64.wrap (mp : Int) = (mp : Int) := wrap_in (by omega) (by omega)
              have hmn : m < n - k := by omega
              have hmn2 : mp < n - k := by omega
              have hein := Lib.hid he1
              have hdin := Lib.hid hd1
              have hmpH := Lib.hid hmp
              have w0 := hrz.cell (i := i * 2) (by omega)
              have w1 := hrz.cell (i := i * 2 + 1) (by omega)
              have k0 := hrz.frozen (i * 2)
              have k1 := hrz.frozen (i * 2 + 1)
              have hin : i < n := by omega
              have hrzH := Lib.hid hrz
              have hbzO := hbz.out
              have hts := Lib.hid (show bs[(k + mp) + 1]? = some e1 by rw [show (k + mp) + 1 = t by omega]; exact he1)
              have htt := Lib.hid (show (k + mp) + 1 = t by omega)
              clear v0 v1 u0 u1 he1 hd1 hmp hrz
              rcases pt_cases e1 d1 with rfl | ⟨hx, hy⟩ | hx
              · go_wp2
                refine wp_region_ord [(0, .q), (1, .q), (2, .q), (3, .q), (4, .q), (5, .q), (6, .q), (7, .q), (8, .q), (9, .q)] (by kernel_rfl) (by kernel_rfl) ?_
                simp only [pick, List.filterMap_cons, List.filterMap_nil, List.getElem?_toArray, List.getElem?_cons_zero, List.getElem?_cons_succ, Option.map_some]
                repeat (first
                  | ((with_reducible refine wpD_p (fun K hK => ?_)); go_simp; refine hK _ ?_; clear hK K)
                  | ((with_reducible refine wpD_q (fun K hK => ?_)); go_simp; (first | refine hK _ ?_ | (go_bits; refine hK _ ?_) | (go_bits; go_simp; refine hK _ ?_)); clear hK K)
                  | ((with_reducible refine wpD_g (fun K hK => ?_)); go_simp; refine hK _ _ ?_; clear hK K)
                  | ((with_reducible refine wpD_g (fun K hK => ?_)); go_simp; refine ⟨Grew.of_alloc _, hK _ _ ?_⟩; clear hK K))
                with_reducible refine wpD_nil ?_
                go_wp2
                go_roundg (n - (t + 1))
                case measure => omega
                case rel =>
                  have hnx := keepD_no hdin.out hts.out rfl
                  have e2 : k + mp + 2 = t + 1 := by have := htt.out; omega
                  rw [e2, htt.out] at hnx
                  exact ⟨i, t + 1, m + 1, F, f', by omega, by omega, by omega, by omega, rfl, by go_num, Lib.hid ⟨by rw [hnx]; exact hst'.out.1, fun q b hq => by rw [hnx] at hq; exact hst'.out.2.1 q b hq, fun q b hq hb => hst'.out.2.2 q b (by omega) hb⟩, hrzH.out, hf, Lib.hid (Gb.below hbzO (by exact bel_))⟩
              · go_wp2
                refine wp_region_ord [(0, .q), (1, .q), (2, .q), (3, .q), (4, .q), (5, .q), (6, .q), (7, .q), (8, .q), (9, .q)] (by kernel_rfl) (by kernel_rfl) ?_
                simp only [pick, List.filterMap_cons, List.filterMap_nil, List.getElem?_toArray, List.getElem?_cons_zero, List.getElem?_cons_succ, Option.map_some]
                repeat (first
                  | ((with_reducible refine wpD_p (fun K hK => ?_)); go_simp; refine hK _ ?_; clear hK K)
                  | ((with_reducible refine wpD_q (fun K hK => ?_)); go_simp; (first | refine hK _ ?_ | (go_bits; refine hK _ ?_) | (go_bits; go_simp; refine hK _ ?_)); clear hK K)
                  | ((with_reducible refine wpD_g (fun K hK => ?_)); go_simp; refine hK _ _ ?_; clear hK K)
                  | ((with_reducible refine wpD_g (fun K hK => ?_)); go_simp; refine ⟨Grew.of_alloc _, hK _ _ ?_⟩; clear hK K))
                with_reducible refine wpD_nil ?_
                go_wp2
                go_roundg (n - (t + 1))
                case measure => omega
                case rel =>
                  have hnx := keepD_yes hdin.out hts.out (fun h => by subst h; simp at hy)
                  have e2 : k + mp + 2 = t + 1 := by have := htt.out; omega
                  rw [e2, htt.out] at hnx
                  have hnxH := Lib.hid hnx
                  exact ⟨i + 1, t + 1, m + 1, fun q => if q = i then e1 else F q, _, by omega, by omega, by omega, by omega, by go_num, by go_num, Lib.hid ⟨by
                    rw [hnxH.out, List.length_append, ← hst'.out.1]; rfl, fun q b hq => by
                    rw [hnxH.out] at hq
                    have hil := hst'.out.1
                    rcases Nat.lt_or_ge q i with hqi | hqi
                    · rw [List.getElem?_append_left (by omega)] at hq
                      show (if q = i then e1 else F q) = b
                      rw [if_neg (by omega)]; exact hst'.out.2.1 q b hq
                    · rw [List.getElem?_append_right (by omega)] at hq
                      have : q - (keepD bs t).length = 0 := by
                        rcases Nat.eq_zero_or_pos (q - (keepD bs t).length) with h0 | h0
                        · exact h0
                        · rw [List.getElem?_eq_none (by simp; omega)] at hq; cases hq
                      rw [this] at hq
                      show (if q = i then e1 else F q) = b
                      rw [if_pos (by omega)]; simpa using hq, fun q b hq hb => by
                    show (if q = i then e1 else F q) = b
                    rw [if_neg (by omega)]; exact hst'.out.2.2 q b (by omega) hb⟩, (hrzH.out.set (i * 2) _).set (i * 2 + 1) _, Lib.hid (fun q hq => by
                    obtain ⟨u0, u1⟩ := hf.out q hq
                    by_cases hqi : q = i
                    · subst hqi
                      simp
                      exact hx.symm
                    · rw [if_neg (by omega), if_neg (by omega), if_neg (by omega), if_neg (by omega)]
                      show f' (q * 2) = Value.int .i64 (if q = i then e1 else F q).x ∧ f' (q * 2 + 1) = Value.int .i64 (if q = i then e1 else F q).y
                      rw [if_neg hqi]
                      exact ⟨u0, u1⟩), Lib.hid (Gb.below ((hbzO.set (i * 2) _).set (i * 2 + 1) _) (by exact bel_))⟩
              · go_wp2
                refine wp_region_ord [(0, .q), (1, .q), (2, .q), (3, .q), (4, .q), (5, .q), (6, .q), (7, .q), (8, .q), (9, .q)] (by kernel_rfl) (by kernel_rfl) ?_
                simp only [pick, List.filterMap_cons, List.filterMap_nil, List.getElem?_toArray, List.getElem?_cons_zero, List.getElem?_cons_succ, Option.map_some]
                repeat (first
                  | ((with_reducible refine wpD_p (fun K hK => ?_)); go_simp; refine hK _ ?_; clear hK K)
                  | ((with_reducible refine wpD_q (fun K hK => ?_)); go_simp; (first | refine hK _ ?_ | (go_bits; refine hK _ ?_) | (go_bits; go_simp; refine hK _ ?_)); clear hK K)
                  | ((with_reducible refine wpD_g (fun K hK => ?_)); go_simp; refine hK _ _ ?_; clear hK K)
                  | ((with_reducible refine wpD_g (fun K hK => ?_)); go_simp; refine ⟨Grew.of_alloc _, hK _ _ ?_⟩; clear hK K))
                with_reducible refine wpD_nil ?_
                go_wp2
                go_roundg (n - (t + 1))
                case measure => omega
                case rel =>
                  have hnx := keepD_yes hdin.out hts.out (fun h => by subst h; simp at hx)
                  have e2 : k + mp + 2 = t + 1 := by have := htt.out; omega
                  rw [e2, htt.out] at hnx
                  have hnxH := Lib.hid hnx
                  exact ⟨i + 1, t + 1, m + 1, fun q => if q = i then e1 else F q, _, by omega, by omega, by omega, by omega, by go_num, by go_num, Lib.hid ⟨by
                    rw [hnxH.out, List.length_append, ← hst'.out.1]; rfl, fun q b hq => by
                    rw [hnxH.out] at hq
                    have hil := hst'.out.1
                    rcases Nat.lt_or_ge q i with hqi | hqi
                    · rw [List.getElem?_append_left (by omega)] at hq
                      show (if q = i then e1 else F q) = b
                      rw [if_neg (by omega)]; exact hst'.out.2.1 q b hq
                    · rw [List.getElem?_append_right (by omega)] at hq
                      have : q - (keepD bs t).length = 0 := by
                        rcases Nat.eq_zero_or_pos (q - (keepD bs t).length) with h0 | h0
                        · exact h0
                        · rw [List.getElem?_eq_none (by simp; omega)] at hq; cases hq
                      rw [this] at hq
                      show (if q = i then e1 else F q) = b
                      rw [if_pos (by omega)]; simpa using hq, fun q b hq hb => by
                    show (if q = i then e1 else F q) = b
                    rw [if_neg (by omega)]; exact hst'.out.2.2 q b (by omega) hb⟩, (hrzH.out.set (i * 2) _).set (i * 2 + 1) _, Lib.hid (fun q hq => by
                    obtain ⟨u0, u1⟩ := hf.out q hq
                    by_cases hqi : q = i
                    · subst hqi
                      simp
                    · rw [if_neg (by omega), if_neg (by omega), if_neg (by omega), if_neg (by omega)]
                      show f' (q * 2) = Value.int .i64 (if q = i then e1 else F q).x ∧ f' (q * 2 + 1) = Value.int .i64 (if q = i then e1 else F q).y
                      rw [if_neg hqi]
                      exact ⟨u0, u1⟩), Lib.hid (Gb.below ((hbzO.set (i * 2) _).set (i * 2 + 1) _) (by exact bel_))⟩
            · obtain rfl : t = n := by omega
              have hcl := fun (ty : TypeId) => run_clear_rowsQ (P := Try.prog) wr 27 52 ty _ Try.underlying27 Try.zeroValue52 g (i * 2) (t - i) (cap - i) (by omega) (fun q hq => by rw [hrz.cell (i := i * 2 + q) (by simp [Value.cells] at hq; omega)]; rfl) (fun q hq => hrz.frozen _) (zero2Q _)
              have hci : ¬ cap = i := by omega
              have hmge : t - k ≤ m := by omega
              have hin : i ≤ t := by omega
              have hrzH := Lib.hid hrz
              clear hrz hmp hm
              go_wp2
              go_ret
              obtain ⟨zs, hzs⟩ : ∃ zs, (Builtin.zeroCells #[Value.int .i64 0, Value.int .i64 0] (t - i)).toList = zs := ⟨_, rfl⟩
              rw [hzs]
              have hrw3 := Go.rowIs_setCells zs (i * 2) wr f' hrzH.out
              have hil := hst'.out.1
              have hfin := hst'.out.2.1
              refine DelPt.of hil (owns_of_rowQ hrw3 rfl hbg.out (by omega) hmO.out (by rw [ptCells_len, hil]) (fun q u hq => ?_)) (hbz.out.sets (i * 2) zs)
              have hqlt := lt_of_get hq
              rw [ptCells_len] at hqlt
              obtain ⟨e, he⟩ : ∃ e, (keepD bs t)[q / 2]? = some e := ⟨_, List.getElem?_eq_getElem (by omega)⟩
              have hFq := hfin (q / 2) e he
              obtain ⟨u0, u1⟩ := hf.out (q / 2) (by omega)
              obtain ⟨y0, y1⟩ := ptCells_get _ (q / 2) e he
              rw [hFq] at u0 u1
              rw [hrw3.cell (i := q) (by omega), if_neg (by omega)]
              rcases (show q % 2 = 0 ∨ q % 2 = 1 by omega) with h2 | h2
              · have e1 : q / 2 * 2 = q := by omega
                rw [e1] at u0 y0
                rw [u0, ← y0, hq]
              · have e1 : q / 2 * 2 + 1 = q := by omega
                rw [e1] at u1 y1
                rw [u1, ← y1, hq]
        · have hnx := Lib.hid (keepD_yes hdH.out heH.out (fun h => by subst h; simp at hy))
          go_wp2
          refine wp_region_ord [(0, .q), (1, .q), (2, .q), (3, .q), (4, .q), (5, .q), (6, .q), (7, .q), (8, .q), (9, .q)] (by kernel_rfl) (by kernel_rfl) ?_
          simp only [pick, List.filterMap_cons, List.filterMap_nil, List.getElem?_toArray, List.getElem?_cons_zero, List.getElem?_cons_succ, Option.map_some]
          repeat (first
            | ((with_reducible refine wpD_p (fun K hK => ?_)); go_simp; refine hK _ ?_; clear hK K)
            | ((with_reducible refine wpD_q (fun K hK => ?_)); go_simp; (first | refine hK _ ?_ | (go_bits; refine hK _ ?_) | (go_bits; go_simp; refine hK _ ?_)); clear hK K)
            | ((with_reducible refine wpD_g (fun K hK => ?_)); go_simp; refine hK _ _ ?_; clear hK K)
            | ((with_reducible refine wpD_g (fun K hK => ?_)); go_simp; refine ⟨Grew.of_alloc _, hK _ _ ?_⟩; clear hK K))
          with_reducible refine wpD_nil ?_
          go_wp2
          go_roundg (n - (k + 1))
          case measure => omega
          case rel => exact ⟨k + 1, by omega, by omega, by go_num, Lib.hid (by rw [htk.out, hkjH.out, hnx.out, hkeepH.out]), Lib.hid (by have hbwO := hbw.out; exact bel_)⟩
        · have hnx := Lib.hid (keepD_yes hdH.out heH.out (fun h => by subst h; simp at hx))
          go_wp2
          refine wp_region_ord [(0, .q), (1, .q), (2, .q), (3, .q), (4, .q), (5, .q), (6, .q), (7, .q), (8, .q), (9, .q)] (by kernel_rfl) (by kernel_rfl) ?_
          simp only [pick, List.filterMap_cons, List.filterMap_nil, List.getElem?_toArray, List.getElem?_cons_zero, List.getElem?_cons_succ, Option.map_some]
          repeat (first
            | ((with_reducible refine wpD_p (fun K hK => ?_)); go_simp; refine hK _ ?_; clear hK K)
            | ((with_reducible refine wpD_q (fun K hK => ?_)); go_simp; (first | refine hK _ ?_ | (go_bits; refine hK _ ?_) | (go_bits; go_simp; refine hK _ ?_)); clear hK K)
            | ((with_reducible refine wpD_g (fun K hK => ?_)); go_simp; refine hK _ _ ?_; clear hK K)
            | ((with_reducible refine wpD_g (fun K hK => ?_)); go_simp; refine ⟨Grew.of_alloc _, hK _ _ ?_⟩; clear hK K))
          with_reducible refine wpD_nil ?_
          go_wp2
          go_roundg (n - (k + 1))
          case measure => omega
          case rel => exact ⟨k + 1, by omega, by omega, by go_num, Lib.hid (by rw [htk.out, hkjH.out, hnx.out, hkeepH.out]), Lib.hid (by have hbwO := hbw.out; exact bel_)⟩
      · obtain rfl : k = n := by omega
        go_wp2
        go_ret
        refine DelPt.of ?_ ?_ (Gb.of_below hbw.out)
        · rw [hkeep.out, List.length_take, hnnH.out]; omega
        · rw [hkeep.out, List.take_of_length_le (by rw [hnnH.out]; exact Nat.le_refl _)]; exact ownsRow_below rowH.out hbw.out
end Go.Proofs.Ytkfjojpohcieeaa
/- Walks: a row of points in order and without equals. -/



namespace Go.Proofs.Ytkfjojpohcieeaa
open Go.RowKit Go.Shelf
attribute [local go_sem] BelowBy.cell BelowBy.cell_drew stillUpon givesUpon

theorem ptCells_of_rd {w : World} {b o : Nat} {xs : List Pt} (h : ∀ k e, xs[k]? = some e → RPt w b (o + k * 2) e) : ∀ j u, (ptCells xs)[j]? = some u → w.cell? ((⟨b, o, none⟩ : Addr).add j) = some u := by
  intro j u hj
  have hlt := (List.getElem?_eq_some_iff.1 hj).1
  rw [ptCells_len] at hlt
  obtain ⟨k, hk⟩ : ∃ k, j / 2 = k := ⟨_, rfl⟩
  obtain ⟨e, he⟩ : ∃ e, xs[k]? = some e := ⟨_, List.getElem?_eq_getElem (by omega)⟩
  obtain ⟨g0, g1⟩ := ptCells_get xs _ e he
  obtain ⟨c0, c1⟩ := h _ e he
  rw [Addr.add_lit]
  have : j = k * 2 ∨ j = k * 2 + 1 := by omega
  rcases this with rfl | rfl
  · rw [← Option.some.inj (g0.symm.trans hj)]; exact c0
  · rw [← Option.some.inj (g1.symm.trans hj), ← Nat.add_assoc]; exact c1
def OwnPts (w : World) (bs : List Pt) (e : Ending) (w' : World) : Prop := ∃ v, e = .returned v ∧ w'.ownsRow w.heap.size 52 2 v bs.length (ptCells bs) ∧ Below w.heap.size w w'
set_option maxRecDepth 100000 in
set_option maxHeartbeats 1000000 in
theorem CloneNil_any (w : World) :
    Calls Try.prog 92 #[.slice none 0 0] w fun e w' => e = .returned (.slice none 0 0) ∧ Below w.heap.size w w' := by
  obtain ⟨i0, hi, hz0, hz1, hz2⟩ := info_parts infoPtQ
  have hq := fun W => Lib.run_eql_slice_nil (P := Try.prog) W 27 52 none 0 0 0 0 Try.underlying27
  go_enter Try.func92, Try.ntmps92
  go_wp2
  go_ret
  exact ⟨rfl, bl_refl _⟩
set_option maxRecDepth 100000 in
set_option maxHeartbeats 1000000 in
theorem ClonePt_any (ad : Addr) (n c : Nat) (bs : List Pt) (w : World) (h : RdSl 2 RPt w (some ad) n bs) (hn : n ≤ 100000) :
    Calls Try.prog 92 #[.slice (some ad) n c] w (OwnPts w bs) := by
  obtain ⟨i0, hi, hz0, hz1, hz2⟩ := info_parts infoPtQ
  have hl := h.len
  have hq := fun W => Lib.run_eql_slice_nil (P := Try.prog) W 27 52 (some ad) n c 0 0 Try.underlying27
  have hcl : (∀ (ob : Obj) j u, (ptCells bs)[j]? = some u → (w.alloc ob).cell? (ad.add j) = some u) := fun ob j u hj => by
    have hlt := (List.getElem?_eq_some_iff.1 hj).1
    rw [ptCells_len] at hlt
    obtain ⟨b, o, e, hb, hc⟩ := h.ptr (by omega)
    injection e with e
    subst e
    refine Eq.trans (World.cell?_alloc_lt _ _ _ ?_) (ptCells_of_rd hc j u hj)
    rw [Addr.add_lit]; exact hb
  have hclH := Lib.hid hcl
  have hlH := Lib.hid hl
  have hlen := ptCells_len bs
  rw [hl] at hlen
  have hlenH := Lib.hid hlen
  clear h hl hcl hlen
  go_enter Try.func92, Try.ntmps92
  go_wp2_with (at_builtin; go_loud (refine wpList_append_own _ rfl _ _ 27 rfl w.heap.size 52 i0 (.agg #[.int .i64 0, .int .i64 0]) 2 16 Try.underlying27 hi hz0 hz1 hz2 rfl (by decide) _ 0 [] rfl (World.ownsRow_made _ _ _ (Nat.le_refl _) (by decide) rfl) ad n c (ptCells bs) rfl hlenH.out (fun j u hj => hclH.out _ j u hj) (ptCells_one bs) (by unfold maxLen; omega) (by omega) (by simp) ?_); intro v' w3 hown' hgrow _)
  go_ret
  refine ⟨_, rfl, ?_, ((Below.refl w.heap.size w).alloc (Nat.le_refl _) _).grown hgrow (by simp) (fun b' hb' => ?_)⟩
  · rw [hlH.out]
    simpa using hown'
  · have hb2 : some w.heap.size = some b' := hb'
    injection hb2 with hb3
    exact Nat.le_of_eq hb3
set_option maxRecDepth 100000 in
theorem insNil_any (c : Nat) (fv : Value) (w : World) :
    Calls Try.prog 103 #[.slice none 0 c, .int .i64 0, .int .i64 0, fv] w fun e w' => e = .returned (.tuple #[]) ∧ Below w.heap.size w w' := by
  go_enter Try.func103, Try.ntmps103
  go_wp2
  go_loopg [8] 1 (fun g x wr => g = 1 ∧ x = .int .i64 1 ∧ Below w.heap.size w wr)
  case atStart => exact ⟨rfl, by go_num, bl_refl _⟩
  case round =>
    obtain ⟨hg, rfl, hb⟩ := hrel
    go_wp2
    go_end0
    exact ⟨rfl, hb⟩
set_option maxRecDepth 100000 in
theorem pdqNil_any (c : Nat) (l : Int) (fv : Value) (w : World) :
    Calls Try.prog 100 #[.slice none 0 c, .int .i64 0, .int .i64 0, .int .i64 l, fv] w fun e w' => e = .returned (.tuple #[]) ∧ Below w.heap.size w w' := by
  go_enter Try.func100, Try.ntmps100
  go_wp2
  go_loopg [1, 2] 1 (fun g x y wr => g = 1 ∧ x = .int .i64 0 ∧ y = .int .i64 0 ∧ Below w.heap.size w wr)
  case atStart => exact ⟨rfl, rfl, rfl, bl_refl _⟩
  case round =>
    obtain ⟨hg, rfl, rfl, hb⟩ := hrel
    go_wp2_with (go_at_call 103; refine (insNil_any _ _ _).mono ?_; rintro e w1 ⟨rfl, hb1⟩; have hb1H := Lib.hid hb1; clear hb1)
    (try simp only [Exit.inBlock, Exit.then])
    refine bodyPost_ret (results_none rfl _ _ _) rfl ?_
    exact ⟨rfl, hb.trans (hb1H.out.mono hb.size)⟩
set_option maxRecDepth 100000 in
theorem bitsLen_zero (w : World) :
    Calls Try.prog 101 #[.int .u64 0] w fun e w' => (∃ l, e = .returned (.int .i64 l)) ∧ Below w.heap.size w w' := by
  go_enter Try.func101, Try.ntmps101
  go_wp2
  go_ret
  exact ⟨⟨_, rfl⟩, bl_refl _⟩
set_option maxRecDepth 100000 in
theorem SortNil_any (c : Nat) (fv : Value) (w : World) :
    Calls Try.prog 87 #[.slice none 0 c, fv] w fun e w' => e = .returned (.tuple #[]) ∧ Below w.heap.size w w' := by
  go_enter Try.func87, Try.ntmps87
  go_wp2_with (first
    | (go_at_call 101; refine (bitsLen_zero _).mono ?_; rintro e w1 ⟨⟨l, rfl⟩, hb1⟩; have hb1H := Lib.hid hb1; clear hb1)
    | (go_at_call 100; refine (pdqNil_any _ _ _ _).mono ?_; rintro e w2 ⟨rfl, hb2⟩; have hb2H := Lib.hid hb2; clear hb2))
  go_end0
  exact ⟨rfl, hb1H.out.trans (hb2H.out.mono hb1H.out.size)⟩
set_option maxRecDepth 100000 in
set_option maxHeartbeats 1000000 in
theorem shapeNil_any (w : World) :
    Calls Try.prog 73 #[.slice none 0 0] w (OwnPts w []) := by
  go_enter Try.func73, Try.ntmps73
  go_wp2_with (first
    | (go_at_call 92; refine (CloneNil_any _).mono ?_; rintro e w1 ⟨rfl, hb1⟩; have hb1H := Lib.hid hb1; clear hb1)
    | (go_at_call 87; refine (SortNil_any _ _ _).mono ?_; rintro e w2 ⟨rfl, hb2⟩; have hb2H := Lib.hid hb2; clear hb2)
    | (go_at_call 93; refine (CompactNil_any _ _).mono ?_; rintro e w3 ⟨rfl, hb3⟩; have hb3H := Lib.hid hb3; clear hb3))
  go_ret
  exact ⟨_, rfl, World.ownsRow_nil _ _ _ _, hb1H.out.trans ((hb2H.out.trans (hb3H.out.mono hb2H.out.size)).mono hb1H.out.size)⟩
theorem sortP_mem {L : List Pt} {p : Pt} : p ∈ sortP L ↔ p ∈ L := List.mem_mergeSort
theorem sortP_weak (L : List Pt) : (sortP L).Pairwise (fun a b => ¬ ltP b a) := by
  have h : (sortP L).Pairwise (fun a b => (!(ltOf cmpP) b a) = true) := by
    refine List.pairwise_mergeSort ?_ ?_ L
    · intro a b c h1 h2
      have := swo_cmpP.ntrans (x := c) (y := b) (z := a) (by simpa using h2) (by simpa using h1)
      simp [this]
    · intro a b
      cases h1 : ltOf cmpP a b
      · simp
      · have := (swo_cmpP.asymm h1)
        simp [this]
  refine h.imp ?_
  intro a b h
  rw [ltOf_cmpP] at h
  intro h2
  rw [ltP_iff] at h2
  rw [lessPt_said] at h
  simp at h
  omega
set_option maxRecDepth 100000 in
set_option maxHeartbeats 1000000 in
theorem sortedShape_any (base : Nat) (v : Value) (L : List Pt) (w : World) (hrow : w.ownsRow base 52 2 v L.length (ptCells L)) (hn : L.length ≤ 100000) (hz : L.length = 0 → v = .slice none 0 0) :
    Calls Try.prog 73 #[v] w (OwnPts w (putAll [] L)) := by
  have hP := compact_put (L := L) (M := sortP L) (fun p => sortP_mem) (sortP_weak L)
  rw [← hP]
  rcases Nat.eq_zero_or_pos L.length with h0 | h0
  · have h1 : L = [] := List.eq_nil_of_length_eq_zero h0
    subst h1
    have hc : compactP (sortP []) = [] := by unfold sortP; rw [List.mergeSort_nil]; rfl
    rw [hc]
    rw [hz rfl]
    exact shapeNil_any w
  · obtain ⟨A, c, rfl, hrd⟩ := rdPt_of_row hrow
    obtain ⟨b, o, rfl, hb, hc⟩ := hrd.ptr h0
    obtain ⟨n, hnn⟩ : ∃ n, L.length = n := ⟨_, rfl⟩
    rw [hnn] at hrd hn h0 ⊢
    have hnH := Lib.hid hnn
    have hrdH := Lib.hid hrd
    have hPH := Lib.hid hP
    clear hrow hc hrd hP hnn hz
    go_enter Try.func73, Try.ntmps73
    go_wp2_with fail
    refine (ClonePt_any _ _ _ L _ hrdH.out hn).mono ?_
    rintro e w1 ⟨v1, rfl, hown, hb1⟩
    rcases hown.2 with ⟨_, h00⟩ | ⟨g, cap, cur, rfl, hbg, hh, _⟩
    · have := hnH.out; omega
    have hgw : g < w1.heap.size := (Array.getElem?_eq_some_iff.1 hh).1
    have hownH := Lib.hid hown
    have hb1H := Lib.hid hb1
    have hbgH := Lib.hid hbg
    have hs1H := Lib.hid hb1.size
    clear hown hb1 hbg hh
    rw [hnH.out] at hownH ⊢
    go_wp2_with fail
    have hsrt := SortFuncPt_any L w.heap.size g cap w1 (by rw [hnH.out]; exact hownH.out) (by rw [hnH.out]; omega)
    rw [hnH.out] at hsrt
    refine hsrt.mono ?_
    rintro e w2 ⟨rfl, hown2, hg2⟩
    have hown2H := Lib.hid hown2
    have hg2H := Lib.hid hg2
    clear hown2 hg2 hsrt
    go_wp2_with fail
    have hsl : (sortP L).length = n := by rw [sortP_len]; exact hnH.out
    have hcp := CompactPt_any w.heap.size g cap (sortP L) w2 (by rw [hsl]; exact hown2H.out) (by rw [hsl]; exact h0) (by rw [hsl]; exact hn)
    rw [hsl] at hcp
    refine hcp.mono ?_
    rintro e w3 ⟨c3, rfl, hown3, hg3⟩
    have hown3H := Lib.hid hown3
    have hg3H := Lib.hid hg3
    clear hown3 hg3 hcp hsl
    go_wp2
    go_ret
    exact ⟨_, rfl, hown3H.out, hb1H.out.trans ((Gb.trans hg2H.out hg3H.out).toBelow hs1H.out hbgH.out |>.mono (Nat.le_refl _))⟩
end Go.Proofs.Ytkfjojpohcieeaa
/- Plain: the points of a rectangle in order; the points that a shape surrounds. -/

namespace Go.Proofs.Ytkfjojpohcieeaa
open Go.RowKit Go.Lib Go.Sort
/-- the first i points of a row -/
def rowP (lx y : Int) (i : Nat) : List Pt := (List.range i).map fun (k : Nat) => ⟨lx + (k : Int), y⟩
/-- the first j rows of a rectangle -/
def rectP (lx ly : Int) (W : Nat) : Nat → List Pt
  | 0 => []
  | j + 1 => rectP lx ly W j ++ rowP lx (ly + (j : Int)) W
theorem rowP_succ (lx y : Int) (i : Nat) : rowP lx y (i + 1) = rowP lx y i ++ [⟨lx + (i : Int), y⟩] := by
  unfold rowP; rw [List.range_succ, List.map_append]; rfl
theorem rowP_len (lx y : Int) (i : Nat) : (rowP lx y i).length = i := by simp [rowP]
theorem rowP_zero (lx y : Int) : rowP lx y 0 = [] := rfl
theorem rectP_len (lx ly : Int) (W : Nat) : ∀ j, (rectP lx ly W j).length = j * W
  | 0 => by simp [rectP]
  | j + 1 => by simp only [rectP]; rw [List.length_append, rectP_len lx ly W j, rowP_len, Nat.add_mul]; omega
theorem rowP_mem {lx y : Int} {i : Nat} {p : Pt} : p ∈ rowP lx y i ↔ p.y = y ∧ lx ≤ p.x ∧ p.x < lx + (i : Int) := by
  unfold rowP
  rw [List.mem_map]
  constructor
  · rintro ⟨k, hk, rfl⟩
    have := List.mem_range.1 hk
    exact ⟨rfl, by show lx ≤ lx + (k : Int); omega, by show lx + (k : Int) < _; omega⟩
  · rintro ⟨rfl, h1, h2⟩
    refine ⟨(p.x - lx).toNat, List.mem_range.2 (by omega), ?_⟩
    have : lx + ((p.x - lx).toNat : Int) = p.x := by omega
    cases p
    simp_all
theorem rectP_mem {lx ly : Int} {W : Nat} {p : Pt} : ∀ {j : Nat}, p ∈ rectP lx ly W j ↔ (ly ≤ p.y ∧ p.y < ly + (j : Int)) ∧ lx ≤ p.x ∧ p.x < lx + (W : Int)
  | 0 => by simp [rectP]; omega
  | j + 1 => by
    simp only [rectP]
    rw [List.mem_append, rectP_mem, rowP_mem]
    constructor
    · rintro (h | h)
      · exact ⟨⟨h.1.1, by omega⟩, h.2⟩
      · exact ⟨⟨by omega, by omega⟩, h.2⟩
    · rintro ⟨⟨h1, h2⟩, h3⟩
      by_cases h : p.y = ly + (j : Int)
      · exact .inr ⟨h, h3⟩
      · exact .inl ⟨⟨h1, by omega⟩, h3⟩
theorem rowP_sorted (lx y : Int) (i : Nat) : SortS (rowP lx y i) := by
  unfold SortS rowP
  rw [List.pairwise_map]
  refine List.Pairwise.imp ?_ (List.pairwise_lt_range (n := i))
  intro a b hab
  rw [ltP_iff]
  exact .inr ⟨rfl, by show lx + (a : Int) < lx + (b : Int); omega⟩
theorem rectP_sorted (lx ly : Int) (W : Nat) : ∀ j, SortS (rectP lx ly W j)
  | 0 => List.Pairwise.nil
  | j + 1 => by
    simp only [rectP]
    unfold SortS
    rw [List.pairwise_append]
    refine ⟨rectP_sorted lx ly W j, rowP_sorted _ _ _, fun a ha b hb => ?_⟩
    rw [rectP_mem] at ha
    rw [rowP_mem] at hb
    rw [ltP_iff]
    exact .inl (by omega)
theorem Shp.of_sorted {L : List Pt} (h : SortS L) (hp : ∀ p ∈ L, (-60 ≤ p.x ∧ p.x ≤ 60) ∧ (-60 ≤ p.y ∧ p.y ≤ 60)) : Shp L :=
  ⟨fun k e he => hp e (List.mem_of_getElem? he), fun i j d e hij hd he => h.get hij hd he⟩
theorem SortS.filter {L : List Pt} (h : SortS L) (f : Pt → Bool) : SortS (L.filter f) := List.Pairwise.sublist List.filter_sublist h
/-- no part is empty -/
theorem partsP_pos {ps : List Pt} {l : List Pt} (h : l ∈ partsP ps) : 0 < l.length := by
  obtain ⟨i, hi⟩ := List.mem_iff_getElem?.1 h
  unfold partsP partsN namesL at hi
  rw [List.map_map, List.getElem?_map] at hi
  have hil : i < (allP (nbP ps) ps.length ps.length).2.length := by
    apply Classical.byContradiction
    intro hh
    rw [List.getElem?_eq_none (by simpa using hh)] at hi
    cases hi
  rw [List.getElem?_range hil] at hi
  simp only [Option.map_some, Option.some.injEq] at hi
  subst hi
  obtain ⟨q, hq⟩ : ∃ q, (allP (nbP ps) ps.length ps.length).2[i]? = some q := ⟨_, List.getElem?_eq_getElem hil⟩
  obtain ⟨h1, h2, h3⟩ := allP_mem _ i q hq
  have hne : ∀ k, ∀ l ∈ (allP (nbP ps) ps.length k).2, l ≠ [] := by
    intro k
    induction k with
    | zero => intro l hl; simp [allP] at hl
    | succ k ih =>
      intro l hl
      simp only [allP] at hl
      split at hl
      · rcases List.mem_append.1 hl with hl | hl
        · exact ih l hl
        · simp at hl
          subst hl
          obtain ⟨m, hm⟩ := visS_more (nb := nbP ps) (c := (allP (nbP ps) ps.length k).2.length + 1) (st := ([k], (allP (nbP ps) ps.length k).1.set k ((allP (nbP ps) ps.length k).2.length + 1))) ps.length
          rw [hm]
          simp
      · exact ih l hl
  cases hq' : q with
  | nil => exact absurd hq' (hne _ q (List.mem_of_getElem? hq))
  | cons v q2 =>
    have hv : v ∈ q := by rw [hq']; simp
    have hm := nameL_mem.2 ⟨h2 v hv, (h3 v).1 hv⟩
    show 0 < (ptsAt ps (nameL _ i ps.length)).length
    rw [ptsAt_len]
    exact List.length_pos_of_mem hm
theorem partsP_mem {ps : List Pt} {l : List Pt} (h : l ∈ partsP ps) : (∀ p ∈ l, p ∈ ps) ∧ l.length ≤ ps.length := by
  obtain ⟨i, hi⟩ := List.mem_iff_getElem?.1 h
  unfold partsP at hi
  rw [List.getElem?_map, Option.map_eq_some_iff] at hi
  obtain ⟨q, hq, rfl⟩ := hi
  have hlt := partsN_lt hq
  refine ⟨fun p hp => ?_, by rw [ptsAt_len]; exact partsN_each hq⟩
  unfold ptsAt at hp
  obtain ⟨v, hv, rfl⟩ := List.mem_map.1 hp
  obtain ⟨e, he⟩ : ∃ e, ps[v]? = some e := ⟨_, List.getElem?_eq_getElem (hlt v hv)⟩
  rw [ptAt_of he]
  exact List.mem_of_getElem? he
end Go.Proofs.Ytkfjojpohcieeaa
/- Walks: the points of a rectangle, the program; a point of a shape looked for, the reference. -/


namespace Go.Proofs.Ytkfjojpohcieeaa
open Go.RowKit Go.Shelf
attribute [local go_sem] BelowBy.cell BelowBy.cell_drew stillUpon givesUpon

set_option maxRecDepth 100000 in
set_option maxHeartbeats 4000000 in
theorem rectangle_any (lx ly hx hy : Int) (W H : Nat) (w : World) (hW : hx + 1 = lx + (W : Int)) (hH : hy + 1 = ly + (H : Int)) (hW1 : W ≤ 200) (hH1 : H ≤ 200) (hlx : -1000 ≤ lx ∧ lx ≤ 1000) (hly : -1000 ≤ ly ∧ ly ≤ 1000) :
    Calls Try.prog 53 #[.agg #[.int .i64 lx, .int .i64 ly], .agg #[.int .i64 hx, .int .i64 hy]] w fun e w' => ∃ v, e = .returned v ∧ w'.ownsRow w.heap.size 52 2 v (H * W) (ptCells (rectP lx ly W H)) ∧ Below w.heap.size w w' := by
  obtain ⟨i0, hi, hz0, hz1, hz2⟩ := info_parts infoPtQ
  have hWH := Lib.hid hW
  have hHH := Lib.hid hH
  have hhx : hx ≤ 1200 := by omega
  have hhy : hy ≤ 1200 := by omega
  clear hW hH
  go_enter Try.func53, Try.ntmps53
  go_wp2
  have b0 : ((w.alloc (Obj.cells #[.int .i64 lx, .int .i64 ly] 52)).alloc (Obj.cells #[.int .i64 hx, .int .i64 hy] 52)).cell? ⟨w.heap.size, 0, none⟩ = some (.int .i64 lx) := by go_simp
  have b1 : ((w.alloc (Obj.cells #[.int .i64 lx, .int .i64 ly] 52)).alloc (Obj.cells #[.int .i64 hx, .int .i64 hy] 52)).cell? ⟨w.heap.size + 1, 0, none⟩ = some (.int .i64 hx) := by go_simp
  have b2 : ((w.alloc (Obj.cells #[.int .i64 lx, .int .i64 ly] 52)).alloc (Obj.cells #[.int .i64 hx, .int .i64 hy] 52)).cell? ⟨w.heap.size + 1, 1, none⟩ = some (.int .i64 hy) := by go_simp
  have hs2 : ((w.alloc (Obj.cells #[.int .i64 lx, .int .i64 ly] 52)).alloc (Obj.cells #[.int .i64 hx, .int .i64 hy] 52)).heap.size = w.heap.size + 2 := by simp
  have hbW : Below w.heap.size w ((w.alloc (Obj.cells #[.int .i64 lx, .int .i64 ly] 52)).alloc (Obj.cells #[.int .i64 hx, .int .i64 hy] 52)) := bl_al (bl_al (bl_refl _) _) _
  obtain ⟨W2, hW2⟩ : ∃ W2, ((w.alloc (Obj.cells #[.int .i64 lx, .int .i64 ly] 52)).alloc (Obj.cells #[.int .i64 hx, .int .i64 hy] 52)) = W2 := ⟨_, rfl⟩
  rw [hW2] at b0 b1 b2 hs2 hbW ⊢
  have hl1 : w.heap.size + 1 < W2.heap.size := by omega
  have hl0 : w.heap.size < W2.heap.size := by omega
  have hs2H := Lib.hid hs2
  clear hW2 hs2
  go_loopg [5, 6] H (fun g v y wr => ∃ (j : Nat), j + g = H ∧ y = .int .i64 (ly + (j : Int)) ∧ Hid (wr.ownsRow W2.heap.size 52 2 v (j * W) (ptCells (rectP lx ly W j))) ∧ Hid (Below W2.heap.size W2 wr))
  case atStart => exact ⟨0, by omega, by go_num, Lib.hid (by simpa [rectP, ptCells] using World.ownsRow_nil W2 W2.heap.size 52 2), Lib.hid (bl_refl _)⟩
  case round =>
    obtain ⟨j, hj, rfl, hO, hbw⟩ := hrel
    have hszl := hbw.out.size
    have c2 := (hbw.out.cell (p := ⟨w.heap.size + 1, 1, none⟩) hl1).trans b2
    have c0 := (hbw.out.cell (p := ⟨w.heap.size, 0, none⟩) hl0).trans b0
    have l1 : w.heap.size + 1 < wr.heap.size := by omega
    have l0 : w.heap.size < wr.heap.size := by omega
    by_cases hjH : j < H
    · have hle : ly + (j : Int) ≤ hy := by have := hHH.out; omega
      obtain ⟨y, hy'⟩ : ∃ y, ly + (j : Int) = y := ⟨_, rfl⟩
      have hyr : -1000 ≤ y ∧ y ≤ 1200 := by omega
      rw [hy']
      rw [hy'] at hle
      have hyH := Lib.hid hy'
      have hmul := Lib.hid (show (j + 1) * W = j * W + W from Nat.succ_mul j W)
      have hmb : j * W ≤ 40000 := Nat.le_trans (Nat.mul_le_mul (show j ≤ 200 by omega) hW1) (by decide)
      obtain ⟨N, hN⟩ : ∃ N, j * W = N := ⟨_, rfl⟩
      rw [hN] at hO hmul hmb
      clear hy' hN
      obtain ⟨wo, hwo⟩ : ∃ wo : World, wo = wr := ⟨_, rfl⟩
      subst hwo
      go_wp2
      go_loopg [5, 7] W (fun g v x wz => ∃ (i : Nat), i + g = W ∧ x = .int .i64 (lx + (i : Int)) ∧ Hid (wz.ownsRow W2.heap.size 52 2 v (N + i) (ptCells (rectP lx ly W j ++ rowP lx y i))) ∧ Hid (Below W2.heap.size W2 wz))
      case atStart => exact ⟨0, by omega, by go_num, Lib.hid (by simpa [rowP_zero] using hO.out), hbw⟩
      case round =>
        clear c0 c2 l0 l1
        obtain ⟨i, hi', rfl, hR, hbz⟩ := hrel
        have hszz := hbz.out.size
        have c1 := (hbz.out.cell (p := ⟨w.heap.size + 1, 0, none⟩) hl1).trans b1
        have l1 : w.heap.size + 1 < wr.heap.size := by omega
        obtain ⟨A1, cp, rfl⟩ := ownsRow_form hR.out
        by_cases hiW : i < W
        · have hle2 : lx + (i : Int) ≤ hx := by have := hWH.out; omega
          obtain ⟨x, hx'⟩ : ∃ x, lx + (i : Int) = x := ⟨_, rfl⟩
          have hxr : -1000 ≤ x ∧ x ≤ 1200 := by omega
          have hsn := Lib.hid (show rectP lx ly W j ++ rowP lx y (i + 1) = (rectP lx ly W j ++ rowP lx y i) ++ [⟨x, y⟩] by rw [rowP_succ, hx', List.append_assoc])
          rw [hx']
          rw [hx'] at hle2
          have hxH := Lib.hid hx'
          clear hx'
          go_wp2_with (at_builtin; refine wpList_append_own_at _ rfl _ _ 27 rfl W2.heap.size 52 i0 (.agg #[.int .i64 0, .int .i64 0]) 2 16 Try.underlying27 hi hz0 hz1 hz2 rfl (by decide) (.slice A1 (N + i) cp) (N + i) (ptCells (rectP lx ly W j ++ rowP lx y i)) rfl (hR.out.alloc _) ⟨wr.heap.size, 0, none⟩ 1 1 [.int .i64 x, .int .i64 y] rfl rfl (cell_pt2 _ _ _ _) (fun x hx => by simp at hx; rcases hx with rfl | rfl <;> rfl) (by unfold maxLen; omega) (by omega) (by simp; omega) ?_; intro v5 w5 hown5 hgrow5 _ hat5; have hown5H := Lib.hid hown5; have hgrow5H := Lib.hid hgrow5; clear hown5 hgrow5 hat5)
          go_roundg (W - (i + 1))
          case measure => omega
          case rel =>
            refine ⟨i + 1, by omega, by rw [← hxH.out]; go_num, Lib.hid ?_, Lib.hid ?_⟩
            · rw [hsn.out, ptCells_snoc]; exact hown5H.out
            · exact hbz.out.trans (below_app hszz (fun g e => (hR.out.lt g e).1) hgrow5H.out)
        · obtain rfl : i = W := by omega
          have hle2 : ¬ lx + (i : Int) ≤ hx := by have := hWH.out; omega
          go_wp2
          go_roundg (H - (j + 1))
          case measure => omega
          case rel =>
            refine ⟨j + 1, by omega, by rw [← hyH.out]; go_num, Lib.hid ?_, hbz⟩
            simp only [rectP]
            rw [hmul.out, hyH.out]
            exact hR.out
    · obtain rfl : j = H := by omega
      have hle : ¬ ly + (j : Int) ≤ hy := by have := hHH.out; omega
      go_wp2
      go_ret
      exact ⟨_, rfl, ownsRow_baseQ hO.out (by have := hs2H.out; omega), hbW.trans (hbw.out.mono (by omega))⟩
end Go.Proofs.Ytkfjojpohcieeaa
/- Walks: blocks of points and their cells. -/





namespace Go.Proofs.Ytkfjojpohcieeaa
open Go.RowKit Go.Shelf
attribute [local go_sem] BelowBy.cell BelowBy.cell_drew stillUpon givesUpon

theorem floor_neg {a k : Int} (hk : 1 ≤ k ∧ k ≤ 4) : -((-a + k - 1) / k) = a / k := by
  have : k = 1 ∨ k = 2 ∨ k = 3 ∨ k = 4 := by omega
  rcases this with rfl | rfl | rfl | rfl <;> omega
theorem floorDiv_any {a k r : Int} {w : World} (ha : -1000 ≤ a ∧ a ≤ 1000) (hk : 1 ≤ k ∧ k ≤ 4) (hr : a / k = r) :
    Calls Try.prog 91 #[.int .i64 a, .int .i64 k] w fun e w' => e = .returned (.int .i64 r) ∧ Below w.heap.size w w' := by
  subst hr
  have hb : -1000 ≤ a / k ∧ a / k ≤ 1000 := by
    have : k = 1 ∨ k = 2 ∨ k = 3 ∨ k = 4 := by omega
    rcases this with rfl | rfl | rfl | rfl <;> omega
  by_cases h : a < 0
  · have hf := Lib.hid (floor_neg (a := a) hk)
    obtain ⟨q, hq⟩ : ∃ q, (-a + k - 1) / k = q := ⟨_, rfl⟩
    have hq1 : -1000 ≤ q ∧ q ≤ 1000 := by have := hf.out; rw [hq] at this; omega
    go_enter Try.func91, Try.ntmps91
    go_wp2
    go_ret
    exact ⟨ret_int (by rw [← hq]; exact hf.out), bl_refl _⟩
  · go_enter Try.func91, Try.ntmps91
    go_wp2
    go_ret
    exact ⟨rfl, bl_refl _⟩
theorem l26Floor_any {a k r s : Int} {w : World} (ha : -1000 ≤ a ∧ a ≤ 1000) (hk : 1 ≤ k ∧ k ≤ 4) (hr : a / k = r) (hs : a % k = s) :
    Calls Try.prog 89 #[.int .i64 a, .int .i64 k] w fun e w' => e = .returned (.tuple #[.int .i64 r, .int .i64 s]) ∧ Below w.heap.size w w' := by
  by_cases h : a < 0
  · obtain ⟨b, rfl⟩ : ∃ b, a = -b := ⟨-a, by omega⟩
    have h1 : (-b).tdiv k = -(b / k) := by rw [Int.neg_tdiv, Int.tdiv_eq_ediv_of_nonneg (by omega)]
    have h2 : (-b).tmod k = -(b % k) := by rw [Int.neg_tmod, Int.tmod_eq_emod_of_nonneg (by omega)]
    obtain ⟨q, hq⟩ : ∃ q, b / k = q := ⟨_, rfl⟩
    obtain ⟨m, hm⟩ : ∃ m, b % k = m := ⟨_, rfl⟩
    rw [hq] at h1
    rw [hm] at h2
    have hx : 0 ≤ q ∧ q ≤ 1000 ∧ 0 ≤ m ∧ m ≤ 3 ∧ (m = 0 → r = -q ∧ s = 0) ∧ (m ≠ 0 → r = -q - 1 ∧ s = -m + k) := by
      have : k = 1 ∨ k = 2 ∨ k = 3 ∨ k = 4 := by omega
      rcases this with rfl | rfl | rfl | rfl <;> omega
    obtain ⟨q1, q2, m1, m2, e1, e2⟩ := hx
    have e1H := Lib.hid e1
    have e2H := Lib.hid e2
    clear hr hs hq hm e1 e2
    by_cases hm0 : m = 0
    · subst hm0
      obtain ⟨rfl, rfl⟩ := e1H.out rfl
      go_enter Try.func89, Try.ntmps89
      go_wp2
      go_ret2
      exact ⟨rfl, bl_refl _⟩
    · obtain ⟨rfl, rfl⟩ := e2H.out hm0
      have hneg : -m < 0 := by omega
      go_enter Try.func89, Try.ntmps89
      go_wp2
      go_ret2
      exact ⟨rfl, bl_refl _⟩
  · have h1 : a.tdiv k = r := by rw [Int.tdiv_eq_ediv_of_nonneg (by omega)]; exact hr
    have h2 : a.tmod k = s := by rw [Int.tmod_eq_emod_of_nonneg (by omega)]; exact hs
    have h3 : 0 ≤ s ∧ s ≤ 3 ∧ 0 ≤ r ∧ r ≤ 1000 := by
      have : k = 1 ∨ k = 2 ∨ k = 3 ∨ k = 4 := by omega
      rcases this with rfl | rfl | rfl | rfl <;> omega
    have hrH := Lib.hid hr
    have hsH := Lib.hid hs
    clear hr hs
    go_enter Try.func89, Try.ntmps89
    go_wp2
    go_ret2
    exact ⟨rfl, bl_refl _⟩
structure FlOf (a k r : Int) : Prop where
  ha : -1000 ≤ a ∧ a ≤ 1000
  hk : 1 ≤ k ∧ k ≤ 4
  hr : a / k = r
theorem floorDiv_f {a k r : Int} {w : World} (h : FlOf a k r) :
    Calls Try.prog 91 #[.int .i64 a, .int .i64 k] w fun e w' => e = .returned (.int .i64 r) ∧ Below w.heap.size w w' := floorDiv_any h.ha h.hk h.hr
theorem l26Floor_f {a k r : Int} {w : World} (h : FlOf a k r) :
    Calls Try.prog 89 #[.int .i64 a, .int .i64 k] w fun e w' => e = .returned (.tuple #[.int .i64 r, .int .i64 (a % k)]) ∧ Below w.heap.size w w' := l26Floor_any h.ha h.hk h.hr rfl
set_option maxRecDepth 100000 in
theorem blockOf_any {x y k r s : Int} {w : World} (hx : -1000 ≤ x ∧ x ≤ 1000) (hy : -1000 ≤ y ∧ y ≤ 1000) (hk : 1 ≤ k ∧ k ≤ 4) (hr : x / k = r) (hs : y / k = s) :
    Calls Try.prog 72 #[.agg #[.int .i64 x, .int .i64 y], .int .i64 k] w fun e w' => (∃ u v, e = .returned (.tuple #[.agg #[.int .i64 r, .int .i64 s], .agg #[.int .i64 u, .int .i64 v]])) ∧ Below w.heap.size w w' := by
  have h1 : -1000 ≤ r ∧ r ≤ 1000 ∧ -1000 ≤ s ∧ s ≤ 1000 ∧ -4000 ≤ k * r ∧ k * r ≤ 4000 ∧ -4000 ≤ k * s ∧ k * s ≤ 4000 := by
    have : k = 1 ∨ k = 2 ∨ k = 3 ∨ k = 4 := by omega
    rcases this with rfl | rfl | rfl | rfl <;> omega
  obtain ⟨a1, a2, a3, a4, a5, a6, a7, a8⟩ := h1
  have fx : FlOf x k r := ⟨hx, hk, hr⟩
  have fy : FlOf y k s := ⟨hy, hk, hs⟩
  clear hr hs
  go_enter Try.func72, Try.ntmps72
  go_wp2_with fail
  obtain ⟨W0, hW0⟩ : ∃ W0, (((w.alloc (Obj.cells #[Value.int IntKind.i64 x, Value.int IntKind.i64 y] 52)).alloc (Obj.cells #[Value.int IntKind.i64 0, Value.int IntKind.i64 0] 52)).alloc (Obj.cells #[Value.int IntKind.i64 0, Value.int IntKind.i64 0] 52)).drew = W0 := ⟨_, rfl⟩
  have s0 : W0.heap.size = w.heap.size + 3 := by rw [← hW0]; simp
  have hbw : Below w.heap.size w W0 := by rw [← hW0]; exact bl_dr (bl_al (bl_al (bl_al (bl_refl _) _) _) _)
  have p00 : W0.cell? ⟨w.heap.size, 0, none⟩ = some (.int .i64 x) := by rw [← hW0]; show ((((w.alloc (Obj.cells #[Value.int IntKind.i64 x, Value.int IntKind.i64 y] 52)).alloc (Obj.cells #[Value.int IntKind.i64 0, Value.int IntKind.i64 0] 52)).alloc (Obj.cells #[Value.int IntKind.i64 0, Value.int IntKind.i64 0] 52))).cell? ⟨w.heap.size, 0, none⟩ = _; go_simp
  have p01 : W0.cell? ⟨w.heap.size, 1, none⟩ = some (.int .i64 y) := by rw [← hW0]; show ((((w.alloc (Obj.cells #[Value.int IntKind.i64 x, Value.int IntKind.i64 y] 52)).alloc (Obj.cells #[Value.int IntKind.i64 0, Value.int IntKind.i64 0] 52)).alloc (Obj.cells #[Value.int IntKind.i64 0, Value.int IntKind.i64 0] 52))).cell? ⟨w.heap.size, 1, none⟩ = _; go_simp
  have p10 : W0.cell? ⟨w.heap.size + 1, 0, none⟩ = some (.int .i64 0) := by rw [← hW0]; show ((((w.alloc (Obj.cells #[Value.int IntKind.i64 x, Value.int IntKind.i64 y] 52)).alloc (Obj.cells #[Value.int IntKind.i64 0, Value.int IntKind.i64 0] 52)).alloc (Obj.cells #[Value.int IntKind.i64 0, Value.int IntKind.i64 0] 52))).cell? ⟨w.heap.size + 1, 0, none⟩ = _; go_simp
  have z10 : W0.frozen? ⟨w.heap.size + 1, 0, none⟩ = false := by rw [← hW0]; show ((((w.alloc (Obj.cells #[Value.int IntKind.i64 x, Value.int IntKind.i64 y] 52)).alloc (Obj.cells #[Value.int IntKind.i64 0, Value.int IntKind.i64 0] 52)).alloc (Obj.cells #[Value.int IntKind.i64 0, Value.int IntKind.i64 0] 52))).frozen? ⟨w.heap.size + 1, 0, none⟩ = _; go_simp
  have p11 : W0.cell? ⟨w.heap.size + 1, 1, none⟩ = some (.int .i64 0) := by rw [← hW0]; show ((((w.alloc (Obj.cells #[Value.int IntKind.i64 x, Value.int IntKind.i64 y] 52)).alloc (Obj.cells #[Value.int IntKind.i64 0, Value.int IntKind.i64 0] 52)).alloc (Obj.cells #[Value.int IntKind.i64 0, Value.int IntKind.i64 0] 52))).cell? ⟨w.heap.size + 1, 1, none⟩ = _; go_simp
  have z11 : W0.frozen? ⟨w.heap.size + 1, 1, none⟩ = false := by rw [← hW0]; show ((((w.alloc (Obj.cells #[Value.int IntKind.i64 x, Value.int IntKind.i64 y] 52)).alloc (Obj.cells #[Value.int IntKind.i64 0, Value.int IntKind.i64 0] 52)).alloc (Obj.cells #[Value.int IntKind.i64 0, Value.int IntKind.i64 0] 52))).frozen? ⟨w.heap.size + 1, 1, none⟩ = _; go_simp
  have p20 : W0.cell? ⟨w.heap.size + 1 + 1, 0, none⟩ = some (.int .i64 0) := by rw [← hW0]; show ((((w.alloc (Obj.cells #[Value.int IntKind.i64 x, Value.int IntKind.i64 y] 52)).alloc (Obj.cells #[Value.int IntKind.i64 0, Value.int IntKind.i64 0] 52)).alloc (Obj.cells #[Value.int IntKind.i64 0, Value.int IntKind.i64 0] 52))).cell? ⟨w.heap.size + 1 + 1, 0, none⟩ = _; go_simp
  have z20 : W0.frozen? ⟨w.heap.size + 1 + 1, 0, none⟩ = false := by rw [← hW0]; show ((((w.alloc (Obj.cells #[Value.int IntKind.i64 x, Value.int IntKind.i64 y] 52)).alloc (Obj.cells #[Value.int IntKind.i64 0, Value.int IntKind.i64 0] 52)).alloc (Obj.cells #[Value.int IntKind.i64 0, Value.int IntKind.i64 0] 52))).frozen? ⟨w.heap.size + 1 + 1, 0, none⟩ = _; go_simp
  have p21 : W0.cell? ⟨w.heap.size + 1 + 1, 1, none⟩ = some (.int .i64 0) := by rw [← hW0]; show ((((w.alloc (Obj.cells #[Value.int IntKind.i64 x, Value.int IntKind.i64 y] 52)).alloc (Obj.cells #[Value.int IntKind.i64 0, Value.int IntKind.i64 0] 52)).alloc (Obj.cells #[Value.int IntKind.i64 0, Value.int IntKind.i64 0] 52))).cell? ⟨w.heap.size + 1 + 1, 1, none⟩ = _; go_simp
  have z21 : W0.frozen? ⟨w.heap.size + 1 + 1, 1, none⟩ = false := by rw [← hW0]; show ((((w.alloc (Obj.cells #[Value.int IntKind.i64 x, Value.int IntKind.i64 y] 52)).alloc (Obj.cells #[Value.int IntKind.i64 0, Value.int IntKind.i64 0] 52)).alloc (Obj.cells #[Value.int IntKind.i64 0, Value.int IntKind.i64 0] 52))).frozen? ⟨w.heap.size + 1 + 1, 1, none⟩ = _; go_simp
  refine wp_region_fl 9 [(0, .q), (1, .q), (2, .q), (4, .q), (5, .q), (6, .q), (3, .g), (7, .g), (8, .q)] [(10, .b)] _ (Obj.cells #[.int .i64 0, .int .i64 0] 52) (by kernel_rfl) (by kernel_rfl) (by kernel_rfl) (by kernel_rfl) rfl (fun a w => ⟨rfl, by unfold flPtr; go_simp⟩) ?_
  simp only [pick, List.filterMap_cons, List.filterMap_nil, List.getElem?_toArray, List.getElem?_cons_zero, List.getElem?_cons_succ, Option.map_some]
  rw [hW0]
  clear hW0
  repeat (first | ((with_reducible refine wpL_p (fun K hK => ?_)); go_simp; refine hK _ ?_; clear hK K) | ((with_reducible refine wpL_q (fun K hK => ?_)); go_simp; (first | refine hK _ ?_ | (go_bits; refine hK _ ?_) | (go_bits; go_simp; refine hK _ ?_)); clear hK K))
  with_reducible refine wpL_g rfl (fun K hK st4 u4 mv4 => ?_)
  have hu4 := mv4.below
  have fu4 := (FlAt.none (Obj.cells #[.int .i64 0, .int .i64 0] 52) W0).mv mv4
  clear mv4
  go_simp
  refine (floorDiv_f fx).mono ?_; rintro e w2 ⟨rfl, hb2⟩
  refine ⟨_, rfl, hb2, hK _ _ _ ?_⟩
  clear hK K
  have fd4 := fu4.below hb2
  repeat (first | ((with_reducible refine wpL_p (fun K hK => ?_)); go_simp; refine hK _ ?_; clear hK K) | ((with_reducible refine wpL_q (fun K hK => ?_)); go_simp; (first | refine hK _ ?_ | (go_bits; refine hK _ ?_) | (go_bits; go_simp; refine hK _ ?_)); clear hK K))
  with_reducible refine wpL_g rfl (fun K hK st5 u5 mv5 => ?_)
  have hu5 := mv5.below
  have fu5 := fd4.mv mv5
  clear mv5
  go_simp
  refine (floorDiv_f fy).mono ?_; rintro e w3 ⟨rfl, hb3⟩
  refine ⟨_, rfl, hb3, hK _ _ _ ?_⟩
  clear hK K
  have fd5 := fu5.below hb3
  repeat (first | ((with_reducible refine wpL_p (fun K hK => ?_)); go_simp; refine hK _ ?_; clear hK K) | ((with_reducible refine wpL_q (fun K hK => ?_)); go_simp; (first | refine hK _ ?_ | (go_bits; refine hK _ ?_) | (go_bits; go_simp; refine hK _ ?_)); clear hK K))
  with_reducible refine wpL_nil (fun b9 w7 mvF => ?_)
  have huF := mvF.below
  obtain ⟨fl9, fb9⟩ := (fd5.mv mvF).2 _ rfl
  clear mvF
  have j2 := hu4.trans (hb2.mono hu4.size)
  have j3 := j2.trans (hu5.mono j2.size)
  have j4 := j3.trans (hb3.mono j3.size)
  have j5 := j4.trans (huF.mono j4.size)
  have hbwH := Lib.hid (hbw.trans (j5.mono hbw.size))
  replace p00 := (j5.cell (p := ⟨w.heap.size, 0, none⟩) (by simp only; omega)).trans p00
  replace p01 := (j5.cell (p := ⟨w.heap.size, 1, none⟩) (by simp only; omega)).trans p01
  replace p10 := (j5.cell (p := ⟨w.heap.size + 1, 0, none⟩) (by simp only; omega)).trans p10
  replace z10 := (j5.frozen (p := ⟨w.heap.size + 1, 0, none⟩) (by simp only; omega)).trans z10
  replace p11 := (j5.cell (p := ⟨w.heap.size + 1, 1, none⟩) (by simp only; omega)).trans p11
  replace z11 := (j5.frozen (p := ⟨w.heap.size + 1, 1, none⟩) (by simp only; omega)).trans z11
  replace p20 := (j5.cell (p := ⟨w.heap.size + 1 + 1, 0, none⟩) (by simp only; omega)).trans p20
  replace z20 := (j5.frozen (p := ⟨w.heap.size + 1 + 1, 0, none⟩) (by simp only; omega)).trans z20
  replace p21 := (j5.cell (p := ⟨w.heap.size + 1 + 1, 1, none⟩) (by simp only; omega)).trans p21
  replace z21 := (j5.frozen (p := ⟨w.heap.size + 1 + 1, 1, none⟩) (by simp only; omega)).trans z21
  have rF : w7.rowIs b9 52 2 (fun i => (#[.int .i64 0, .int .i64 0] : Array Value).getD i undef) := ⟨_, fb9, rfl, fun i hi => by simp [hi]⟩
  have rFH := Lib.hid rF
  have yF0 := rF.cell (i := 0) (by decide)
  have yF1 := rF.cell (i := 1) (by decide)
  have kF0 := rF.frozen 0
  have kF1 := rF.frozen 1
  have n0 : ¬ w.heap.size = b9 := by omega
  have n1 : ¬ w.heap.size + 1 = b9 := by omega
  have n2 : ¬ w.heap.size + 1 + 1 = b9 := by omega
  have n0' : ¬ b9 = w.heap.size := by omega
  have n1' : ¬ b9 = w.heap.size + 1 := by omega
  have n2' : ¬ b9 = w.heap.size + 1 + 1 := by omega
  have g9 : w.heap.size ≤ b9 := by omega
  have lw9 : b9 < w7.heap.size := (Array.getElem?_eq_some_iff.1 fb9).1
  have lw0 : w.heap.size < w7.heap.size := by omega
  have lw1 : w.heap.size + 1 < w7.heap.size := by omega
  have lw2 : w.heap.size + 1 + 1 < w7.heap.size := by omega
  clear rF fb9 fl9 fd5 fu5 fd4 fu4 hu4 hu5 huF hb2 hb3 j2 j3 j4 j5 hbw s0
  simp only [flPtr]
  with_reducible refine wpD_b (fun K hK => ?_)
  go_simp
  refine hK _ _ ?_
  clear hK K
  with_reducible refine wpD_nil ?_
  go_wp2
  have rF8 := (rFH.out.set 0 (.int .i64 r)).set 1 (.int .i64 s)
  have q00 : ((w7.setCell ⟨b9, 0, none⟩ (.int .i64 r)).setCell ⟨b9, 1, none⟩ (.int .i64 s)).cell? ⟨w.heap.size, 0, none⟩ = some (.int .i64 x) := by go_simp
  have q01 : ((w7.setCell ⟨b9, 0, none⟩ (.int .i64 r)).setCell ⟨b9, 1, none⟩ (.int .i64 s)).cell? ⟨w.heap.size, 1, none⟩ = some (.int .i64 y) := by go_simp
  have q10 : ((w7.setCell ⟨b9, 0, none⟩ (.int .i64 r)).setCell ⟨b9, 1, none⟩ (.int .i64 s)).cell? ⟨w.heap.size + 1, 0, none⟩ = some (.int .i64 0) := by go_simp
  have v10 : ((w7.setCell ⟨b9, 0, none⟩ (.int .i64 r)).setCell ⟨b9, 1, none⟩ (.int .i64 s)).frozen? ⟨w.heap.size + 1, 0, none⟩ = false := by go_simp
  have q11 : ((w7.setCell ⟨b9, 0, none⟩ (.int .i64 r)).setCell ⟨b9, 1, none⟩ (.int .i64 s)).cell? ⟨w.heap.size + 1, 1, none⟩ = some (.int .i64 0) := by go_simp
  have v11 : ((w7.setCell ⟨b9, 0, none⟩ (.int .i64 r)).setCell ⟨b9, 1, none⟩ (.int .i64 s)).frozen? ⟨w.heap.size + 1, 1, none⟩ = false := by go_simp
  have q20 : ((w7.setCell ⟨b9, 0, none⟩ (.int .i64 r)).setCell ⟨b9, 1, none⟩ (.int .i64 s)).cell? ⟨w.heap.size + 1 + 1, 0, none⟩ = some (.int .i64 0) := by go_simp
  have v20 : ((w7.setCell ⟨b9, 0, none⟩ (.int .i64 r)).setCell ⟨b9, 1, none⟩ (.int .i64 s)).frozen? ⟨w.heap.size + 1 + 1, 0, none⟩ = false := by go_simp
  have q21 : ((w7.setCell ⟨b9, 0, none⟩ (.int .i64 r)).setCell ⟨b9, 1, none⟩ (.int .i64 s)).cell? ⟨w.heap.size + 1 + 1, 1, none⟩ = some (.int .i64 0) := by go_simp
  have v21 : ((w7.setCell ⟨b9, 0, none⟩ (.int .i64 r)).setCell ⟨b9, 1, none⟩ (.int .i64 s)).frozen? ⟨w.heap.size + 1 + 1, 1, none⟩ = false := by go_simp
  have hbw8 := Lib.hid (show Below w.heap.size w ((w7.setCell ⟨b9, 0, none⟩ (.int .i64 r)).setCell ⟨b9, 1, none⟩ (.int .i64 s)) by have hbw := hbwH.out; exact bel_)
  have hsz8 : ((w7.setCell ⟨b9, 0, none⟩ (.int .i64 r)).setCell ⟨b9, 1, none⟩ (.int .i64 s)).heap.size = w7.heap.size := by simp
  rw [← hsz8] at lw9 lw0 lw1 lw2
  clear hsz8
  obtain ⟨W8, hW8⟩ : ∃ W8, (w7.setCell ⟨b9, 0, none⟩ (.int .i64 r)).setCell ⟨b9, 1, none⟩ (.int .i64 s) = W8 := ⟨_, rfl⟩
  rw [hW8] at rF8 lw9 lw0 lw1 lw2 q00 q01 q10 v10 q11 v11 q20 v20 q21 v21 hbw8 ⊢
  clear hW8
  have y0 : W8.cell? ⟨b9, 0, none⟩ = some (.int .i64 r) := rF8.cell (i := 0) (by decide)
  have y1 : W8.cell? ⟨b9, 1, none⟩ = some (.int .i64 s) := rF8.cell (i := 1) (by decide)
  clear rF8 yF0 yF1 kF0 kF1 rFH hbwH p00 p01 p10 p11 p20 p21 z10 z11 z20 z21
  have hJc : ∀ W : World, (W.cell? ⟨w.heap.size, 0, none⟩ = some (.int .i64 x) ∧ W.cell? ⟨w.heap.size, 1, none⟩ = some (.int .i64 y) ∧ W.cell? ⟨b9, 0, none⟩ = some (.int .i64 r) ∧ W.cell? ⟨b9, 1, none⟩ = some (.int .i64 s)) → (W.cell? ⟨w.heap.size, 0, none⟩ = some (.int .i64 x) ∧ W.cell? ⟨w.heap.size, 1, none⟩ = some (.int .i64 y) ∧ W.cell? ⟨b9, 0, none⟩ = some (.int .i64 r) ∧ W.cell? ⟨b9, 1, none⟩ = some (.int .i64 s)) := fun W h => h
  refine wp_region_ordJ [(0, .p), (1, .p), (2, .p), (3, .p), (4, .p), (5, .p), (6, .p), (7, .p), (8, .p), (9, .p), (10, .p), (11, .p), (12, .p), (13, .p), (14, .p), (15, .p), (16, .b), (17, .b)] (by kernel_rfl) (by kernel_rfl) (fun W => W.cell? ⟨w.heap.size, 0, none⟩ = some (.int .i64 x) ∧ W.cell? ⟨w.heap.size, 1, none⟩ = some (.int .i64 y) ∧ W.cell? ⟨b9, 0, none⟩ = some (.int .i64 r) ∧ W.cell? ⟨b9, 1, none⟩ = some (.int .i64 s)) ⟨q00, q01, y0, y1⟩ ?_
  simp only [pick, List.filterMap_cons, List.filterMap_nil, List.getElem?_toArray, List.getElem?_cons_zero, List.getElem?_cons_succ, Option.map_some]
  repeat (with_reducible refine wpDJ_pv rfl (fun K hK => ?_); apply Exists.intro; apply And.intro; (focus (intro W hW; have hc := hJc W hW; go_simp; (first | done | rfl | exact ⟨rfl, rfl⟩))); go_simp; refine hK _ ?_; clear hK K)
  with_reducible refine wpDJ_b (fun K hK => ?_)
  go_simp
  refine hK _ _ ?_
  clear hK K
  with_reducible refine wpDJ_b (fun K hK => ?_)
  go_simp
  refine hK _ _ ?_
  clear hK K
  with_reducible refine wpDJ_nil ?_
  clear hJc
  go_wp2
  refine bodyPost_ret (v := .tuple #[.agg #[.int .i64 r, .int .i64 s], .agg #[.int .i64 (IntKind.i64.wrap (x - IntKind.i64.wrap (k * r))), .int .i64 (IntKind.i64.wrap (y - IntKind.i64.wrap (k * s)))]]) (by simp only [results, Try.results72]; go_simp) rfl ?_
  exact ⟨⟨_, _, rfl⟩, by have hbw := hbw8.out; exact bel_⟩
set_option maxRecDepth 100000 in
theorem l26Block_any {x y k r s : Int} {w : World} (hx : -1000 ≤ x ∧ x ≤ 1000) (hy : -1000 ≤ y ∧ y ≤ 1000) (hk : 1 ≤ k ∧ k ≤ 4) (hr : x / k = r) (hs : y / k = s) :
    Calls Try.prog 67 #[.agg #[.int .i64 x, .int .i64 y], .int .i64 k] w fun e w' => (∃ u v, e = .returned (.tuple #[.agg #[.int .i64 r, .int .i64 s], .agg #[.int .i64 u, .int .i64 v]])) ∧ Below w.heap.size w w' := by
  have fx : FlOf x k r := ⟨hx, hk, hr⟩
  have fy : FlOf y k s := ⟨hy, hk, hs⟩
  clear hr hs
  
  go_enter Try.func67, Try.ntmps67
  go_wp2_with fail
  refine (l26Floor_f fx).mono ?_
  rintro e w1 ⟨rfl, hb1⟩
  have x1 : w1.cell? ⟨w.heap.size, 1, none⟩ = some (.int .i64 y) := (hb1.cell (p := ⟨w.heap.size, 1, none⟩) (by simp; omega)).trans (by go_simp)
  have p10 : w1.cell? ⟨w.heap.size + 1, 0, none⟩ = some (.int .i64 0) := (hb1.cell (p := ⟨w.heap.size + 1, 0, none⟩) (by simp; try omega)).trans (by go_simp)
  have p11 : w1.cell? ⟨w.heap.size + 1, 1, none⟩ = some (.int .i64 0) := (hb1.cell (p := ⟨w.heap.size + 1, 1, none⟩) (by simp; try omega)).trans (by go_simp)
  have p20 : w1.cell? ⟨w.heap.size + 1 + 1, 0, none⟩ = some (.int .i64 0) := (hb1.cell (p := ⟨w.heap.size + 1 + 1, 0, none⟩) (by simp; try omega)).trans (by go_simp)
  have p21 : w1.cell? ⟨w.heap.size + 1 + 1, 1, none⟩ = some (.int .i64 0) := (hb1.cell (p := ⟨w.heap.size + 1 + 1, 1, none⟩) (by simp; try omega)).trans (by go_simp)
  have z10 : w1.frozen? ⟨w.heap.size + 1, 0, none⟩ = false := (hb1.frozen (p := ⟨w.heap.size + 1, 0, none⟩) (by simp; try omega)).trans (by go_simp)
  have z11 : w1.frozen? ⟨w.heap.size + 1, 1, none⟩ = false := (hb1.frozen (p := ⟨w.heap.size + 1, 1, none⟩) (by simp; try omega)).trans (by go_simp)
  have z20 : w1.frozen? ⟨w.heap.size + 1 + 1, 0, none⟩ = false := (hb1.frozen (p := ⟨w.heap.size + 1 + 1, 0, none⟩) (by simp; try omega)).trans (by go_simp)
  have z21 : w1.frozen? ⟨w.heap.size + 1 + 1, 1, none⟩ = false := (hb1.frozen (p := ⟨w.heap.size + 1 + 1, 1, none⟩) (by simp; try omega)).trans (by go_simp)
  have hs1 : w.heap.size + 2 < w1.heap.size := by have := hb1.size; simp at this; omega
  have hs1' : w.heap.size + 1 < w1.heap.size := by omega
  have hs1'' : w.heap.size + 1 + 1 < w1.heap.size := by omega
  have hbwH := Lib.hid (show Below w.heap.size w w1 by exact bel_)
  clear hb1
  go_wp2_with fail
  refine (l26Floor_f fy).mono ?_
  rintro e w2 ⟨rfl, hb2⟩
  replace p10 := (hb2.cell (p := ⟨w.heap.size + 1, 0, none⟩) (by simp; omega)).trans p10
  replace p11 := (hb2.cell (p := ⟨w.heap.size + 1, 1, none⟩) (by simp; omega)).trans p11
  replace p20 := (hb2.cell (p := ⟨w.heap.size + 1 + 1, 0, none⟩) (by simp; omega)).trans p20
  replace p21 := (hb2.cell (p := ⟨w.heap.size + 1 + 1, 1, none⟩) (by simp; omega)).trans p21
  replace z10 := (hb2.frozen (p := ⟨w.heap.size + 1, 0, none⟩) (by simp; omega)).trans z10
  replace z11 := (hb2.frozen (p := ⟨w.heap.size + 1, 1, none⟩) (by simp; omega)).trans z11
  replace z20 := (hb2.frozen (p := ⟨w.heap.size + 1 + 1, 0, none⟩) (by simp; omega)).trans z20
  replace z21 := (hb2.frozen (p := ⟨w.heap.size + 1 + 1, 1, none⟩) (by simp; omega)).trans z21
  have hb2H := Lib.hid hb2
  clear hb2 x1 hs1 hs1' hs1''
  go_wp2
  refine bodyPost_ret (v := .tuple #[.agg #[.int .i64 r, .int .i64 s], .agg #[.int .i64 (x % k), .int .i64 (y % k)]]) (by simp only [results, Try.results67]; go_simp) rfl ?_
  exact ⟨⟨_, _, rfl⟩, by have hbw := hbwH.out; have hb2 := hb2H.out; have := hbw.size; exact bel_⟩
theorem pointOf_any {bx b_y cx cy k r s : Int} {w : World} (hx : -1000 ≤ bx ∧ bx ≤ 1000) (hy : -1000 ≤ b_y ∧ b_y ≤ 1000) (hk : 1 ≤ k ∧ k ≤ 4) (hcx : 0 ≤ cx ∧ cx ≤ 4) (hcy : 0 ≤ cy ∧ cy ≤ 4) (hr : k * bx + cx = r) (hs : k * b_y + cy = s) :
    Calls Try.prog 76 #[.agg #[.int .i64 bx, .int .i64 b_y], .agg #[.int .i64 cx, .int .i64 cy], .int .i64 k] w fun e w' => e = .returned (.agg #[.int .i64 r, .int .i64 s]) ∧ Below w.heap.size w w' := by
  have h1 : -4000 ≤ k * bx ∧ k * bx ≤ 4000 ∧ -4000 ≤ k * b_y ∧ k * b_y ≤ 4000 := by
    have : k = 1 ∨ k = 2 ∨ k = 3 ∨ k = 4 := by omega
    rcases this with rfl | rfl | rfl | rfl <;> omega
  obtain ⟨a1, a2, a3, a4⟩ := h1
  subst hr hs
  go_enter Try.func76, Try.ntmps76
  go_wp2
  refine bodyPost_ret (v := .agg #[.int .i64 (k * bx + cx), .int .i64 (k * b_y + cy)]) (by simp only [results, Try.results76]; go_simp) rfl ?_
  exact ⟨rfl, by exact bel_⟩
theorem l26Cell_any {bx b_y cx cy k r s : Int} {w : World} (hx : -1000 ≤ bx ∧ bx ≤ 1000) (hy : -1000 ≤ b_y ∧ b_y ≤ 1000) (hk : 1 ≤ k ∧ k ≤ 4) (hcx : 0 ≤ cx ∧ cx ≤ 4) (hcy : 0 ≤ cy ∧ cy ≤ 4) (hr : bx * k + cx = r) (hs : b_y * k + cy = s) :
    Calls Try.prog 70 #[.agg #[.int .i64 bx, .int .i64 b_y], .int .i64 cx, .int .i64 cy, .int .i64 k] w fun e w' => e = .returned (.agg #[.int .i64 r, .int .i64 s]) ∧ Below w.heap.size w w' := by
  have h1 : -4000 ≤ bx * k ∧ bx * k ≤ 4000 ∧ -4000 ≤ b_y * k ∧ b_y * k ≤ 4000 := by
    have : k = 1 ∨ k = 2 ∨ k = 3 ∨ k = 4 := by omega
    rcases this with rfl | rfl | rfl | rfl <;> omega
  obtain ⟨a1, a2, a3, a4⟩ := h1
  subst hr hs
  go_enter Try.func70, Try.ntmps70
  go_wp2
  refine bodyPost_ret (v := .agg #[.int .i64 (bx * k + cx), .int .i64 (b_y * k + cy)]) (by simp only [results, Try.results70]; go_simp) rfl ?_
  exact ⟨rfl, by exact bel_⟩
theorem cells_any {k : Nat} {w : World} (hk : 1 ≤ k ∧ k ≤ 4) :
    Calls Try.prog 74 #[.int .i64 (k : Int)] w fun e w' => ∃ v, e = .returned v ∧ w'.ownsRow w.heap.size 52 2 v (k * k) (ptCells (rectP 0 0 k k)) ∧ Below w.heap.size w w' := by
  go_enter Try.func74, Try.ntmps74
  go_wp2_with (go_at_call 53; refine (rectangle_any 0 0 ((k : Int) - 1) ((k : Int) - 1) k k _ (by omega) (by omega) (by omega) (by omega) (by omega) (by omega)).mono ?_; rintro e w1 ⟨v, rfl, hown, hb1⟩; have hownH := Lib.hid hown; have hb1H := Lib.hid hb1; clear hown hb1)
  go_ret
  exact ⟨_, rfl, hownH.out, hb1H.out⟩
end Go.Proofs.Ytkfjojpohcieeaa
/- Plain: the blocks of an assembly. -/



namespace Go.Proofs.Ytkfjojpohcieeaa
open Go.RowKit Go.Shelf
attribute [local go_sem] BelowBy.cell BelowBy.cell_drew stillUpon givesUpon

def blkP (k : Int) (e : Pl) : Pt := ⟨e.x / k, e.y / k⟩
def blocksP (k : Int) (xs : List Pl) : List Pt := putAll [] (xs.map (blkP k))
theorem putP_len_le (L : List Pt) (x y : Int) : (putP L x y).length ≤ L.length + 1 := by
  unfold putP
  simp only []
  split <;> simp <;> omega
theorem putAll_len (ps : List Pt) : ∀ L : List Pt, (putAll L ps).length ≤ L.length + ps.length := by
  induction ps with
  | nil => intro L; exact Nat.le_refl _
  | cons p ps ih =>
    intro L
    have := putP_len_le L p.x p.y
    have h2 := ih (putP L p.x p.y)
    simp only [putAll, List.length_cons]
    omega
theorem cell_pt2n (w : World) (a b : Value) (t : TypeId) (m : Nat) (hm : m = w.heap.size) : ∀ j u, [a, b][j]? = some u → (w.alloc (.cells #[a, b] t)).cell? ((⟨m, 0, none⟩ : Addr).add j) = some u := by
  subst hm; exact cell_pt2 w a b t
end Go.Proofs.Ytkfjojpohcieeaa
/- Plain: is a block complete? -/

namespace Go.Proofs.Ytkfjojpohcieeaa
open Go.RowKit Go.Shelf
/-- the tile at place i of a block -/
noncomputable def vB (xs : List Pl) (k : Nat) (b : Pt) (i : Nat) : Int := atI xs ((k : Int) * b.x + ((i % k : Nat) : Int)) ((k : Int) * b.y + ((i / k : Nat) : Int))
theorem vB_rng {xs : List Pl} (h : hasFormB xs = true) (k : Nat) (b : Pt) (i : Nat) : -1 ≤ vB xs k b i ∧ vB xs k b i ≤ 159 := by
  unfold vB
  rcases atI_cases (form_valid h) ((k : Int) * b.x + ((i % k : Nat) : Int)) ((k : Int) * b.y + ((i / k : Nat) : Int)) with ⟨_, h2⟩ | ⟨j, t, e, _, _, _, ht, h2⟩
  · rw [h2]; omega
  · rw [h2]
    have : noTiles.length = 160 := by unfold noTiles; exact List.length_replicate
    omega
def okC (F : Nat → Int) (K i : Nat) : Bool := decide (0 ≤ F i ∧ F i % (K : Int) = (i : Int) ∧ (i = 0 ∨ F i / (K : Int) = F (i - 1) / (K : Int)))
noncomputable def compI (xs : List Pl) (k : Nat) (b : Pt) : Int := if allB (k * k) (okC (vB xs k b) (k * k)) then vB xs k b (k * k - 1) / ((k * k : Nat) : Int) else -1
theorem compI_bad {xs : List Pl} {k : Nat} {b : Pt} {i : Nat} (hi : i < k * k) (h : okC (vB xs k b) (k * k) i = false) : compI xs k b = -1 := by
  unfold compI; rw [allB_false hi h]; rfl
theorem compI_good {xs : List Pl} {k : Nat} {b : Pt} (h : ∀ i, i < k * k → okC (vB xs k b) (k * k) i = true) : compI xs k b = vB xs k b (k * k - 1) / ((k * k : Nat) : Int) := by
  unfold compI; rw [allB_true h]; rfl
theorem okC_no {F : Nat → Int} {K i : Nat} (h : okC F K i = false) : F i < 0 ∨ (0 ≤ F i ∧ ¬ F i % (K : Int) = (i : Int)) ∨ (0 ≤ F i ∧ F i % (K : Int) = (i : Int) ∧ 0 < i ∧ ¬ F i / (K : Int) = F (i - 1) / (K : Int)) := by
  unfold okC at h
  rw [decide_eq_false_iff_not] at h
  omega
theorem okC_yes {F : Nat → Int} {K i : Nat} (h : okC F K i = true) : 0 ≤ F i ∧ F i % (K : Int) = (i : Int) ∧ (i = 0 ∨ F i / (K : Int) = F (i - 1) / (K : Int)) := by
  unfold okC at h
  rwa [decide_eq_true_eq] at h
/-- the program's test: the difference to the place -/
theorem okC_yesI {F : Nat → Int} {K i : Nat} (hK : K = 1 ∨ K = 4 ∨ K = 9 ∨ K = 16) (hi : i < K) (hp : 0 < i → okC F K (i - 1) = true) (h : okC F K i = true) :
    0 ≤ F i - (i : Int) ∧ (F i - (i : Int)) % (K : Int) = 0 ∧ (i = 0 ∨ F i - (i : Int) = F (i - 1) - ((i : Int) - 1)) := by
  obtain ⟨h1, h2, h3⟩ := okC_yes h
  rcases Nat.eq_zero_or_pos i with h0 | h0
  · subst h0
    rcases hK with rfl | rfl | rfl | rfl <;> omega
  · obtain ⟨p1, p2, _⟩ := okC_yes (hp h0)
    obtain ⟨j, rfl⟩ : ∃ j, i = j + 1 := ⟨i - 1, by omega⟩
    simp only [Nat.add_sub_cancel] at *
    rcases hK with rfl | rfl | rfl | rfl <;> omega
theorem okC_noI {F : Nat → Int} {K i : Nat} (hK : K = 1 ∨ K = 4 ∨ K = 9 ∨ K = 16) (hi : i < K) (hp : 0 < i → okC F K (i - 1) = true) (h : okC F K i = false) :
    F i - (i : Int) < 0 ∨ (0 ≤ F i - (i : Int) ∧ ¬ (F i - (i : Int)) % (K : Int) = 0) ∨ (0 ≤ F i - (i : Int) ∧ (F i - (i : Int)) % (K : Int) = 0 ∧ 0 < i ∧ ¬ F i - (i : Int) = F (i - 1) - ((i : Int) - 1)) := by
  have h3 := okC_no h
  rcases Nat.eq_zero_or_pos i with h0 | h0
  · subst h0
    rcases hK with rfl | rfl | rfl | rfl <;> omega
  · obtain ⟨p1, p2, _⟩ := okC_yes (hp h0)
    obtain ⟨j, rfl⟩ : ∃ j, i = j + 1 := ⟨i - 1, by omega⟩
    simp only [Nat.add_sub_cancel] at *
    rcases hK with rfl | rfl | rfl | rfl <;> omega
theorem compI_endI {F : Nat → Int} {K : Nat} (hK : K = 1 ∨ K = 4 ∨ K = 9 ∨ K = 16) (h : okC F K (K - 1) = true) : (F (K - 1) - ((K : Int) - 1)) / (K : Int) = F (K - 1) / (K : Int) := by
  obtain ⟨h1, h2, h3⟩ := okC_yes h
  rcases hK with rfl | rfl | rfl | rfl <;> omega
theorem rect_get {k i : Nat} (hk : 1 ≤ k ∧ k ≤ 4) (hi : i < k * k) : (rectP 0 0 k k)[i]? = some ⟨((i % k : Nat) : Int), ((i / k : Nat) : Int)⟩ := by
  have h1 : ∀ i, i < 1 → (rectP 0 0 1 1)[i]? = some ⟨((i % 1 : Nat) : Int), ((i / 1 : Nat) : Int)⟩ := by decide
  have h2 : ∀ i, i < 4 → (rectP 0 0 2 2)[i]? = some ⟨((i % 2 : Nat) : Int), ((i / 2 : Nat) : Int)⟩ := by decide
  have h3 : ∀ i, i < 9 → (rectP 0 0 3 3)[i]? = some ⟨((i % 3 : Nat) : Int), ((i / 3 : Nat) : Int)⟩ := by decide
  have h4 : ∀ i, i < 16 → (rectP 0 0 4 4)[i]? = some ⟨((i % 4 : Nat) : Int), ((i / 4 : Nat) : Int)⟩ := by decide
  have : k = 1 ∨ k = 2 ∨ k = 3 ∨ k = 4 := by omega
  rcases this with rfl | rfl | rfl | rfl
  · exact h1 i hi
  · exact h2 i hi
  · exact h3 i hi
  · exact h4 i hi
theorem sq_cases {k : Nat} (hk : 1 ≤ k ∧ k ≤ 4) : k * k = 1 ∨ k * k = 4 ∨ k * k = 9 ∨ k * k = 16 := by
  have : k = 1 ∨ k = 2 ∨ k = 3 ∨ k = 4 := by omega
  rcases this with rfl | rfl | rfl | rfl <;> simp
end Go.Proofs.Ytkfjojpohcieeaa
/- Walks: the blocks of an assembly. -/

namespace Go.Proofs.Ytkfjojpohcieeaa
open Go.RowKit Go.Shelf
attribute [local go_sem] BelowBy.cell BelowBy.cell_drew stillUpon givesUpon

set_option maxRecDepth 100000 in
set_option maxHeartbeats 4000000 in
theorem blocks_any {A : Option Addr} {n c : Nat} {xs : List Pl} {k : Int} {w : World} (h : RdSl 3 RPl w A n xs) (hf : hasFormB xs = true) (hk : 1 ≤ k ∧ k ≤ 4) :
    Calls Try.prog 43 #[.agg #[.slice A n c], .int .i64 k] w (OwnPts w (blocksP k xs)) := by
  obtain ⟨i0, hi, hz0, hz1, hz2⟩ := info_parts infoPtQ
  have hV := form_valid hf
  have hpt := Lib.hid hV.pt
  have hn : n ≤ 500 := by have := form_len hf; rw [h.len] at this; exact this
  have hH := Lib.hid h
  have hl := Lib.hid h.len
  clear h hf hV
  go_enter Try.func43, Try.ntmps43
  go_wp2
  go_loopg [13, 5] n (fun g i v wr => ∃ (j : Nat), j + g = n ∧ i = .int .i64 (j : Int) ∧ Hid (wr.ownsRow (w.heap.size + 1) 52 2 v j (ptCells ((xs.map (blkP k)).take j))) ∧ Hid (Below w.heap.size w wr) ∧ w.heap.size + 1 ≤ wr.heap.size ∧ Hid (j = 0 → v = .slice none 0 0))
  case atStart => exact ⟨0, by omega, rfl, Lib.hid (World.ownsRow_nil _ _ _ _), Lib.hid (bl_al (bl_refl _) _), by simp, Lib.hid (fun _ => rfl)⟩
  case round =>
    obtain ⟨j, hj, rfl, hO, hbw, hsz, hzz⟩ := hrel
    have hszl := hbw.out.size
    obtain ⟨A1, c1, rfl⟩ := ownsRow_form hO.out
    by_cases hkn : j < n
    · have hAw := hH.out.below RPl.stable hbw.out
      obtain ⟨bb, ob, rfl, hbb, hbc⟩ := hAw.ptr (by omega)
      obtain ⟨e, he⟩ := hAw.get hkn
      obtain ⟨e0, e1, e2⟩ := hbc j e he
      have htk := Lib.hid (show (xs.map (blkP k)).take (j + 1) = (xs.map (blkP k)).take j ++ [⟨e.x / k, e.y / k⟩] by rw [List.take_add_one, List.getElem?_map, he]; rfl)
      have hp := hpt.out j e he
      have hpx : -1000 ≤ e.x ∧ e.x ≤ 1000 := by omega
      have hpy : -1000 ≤ e.y ∧ e.y ≤ 1000 := by omega
      clear hbc he hAw hp
      go_wp2_with fail
      refine (blockOf_any (r := e.x / k) (s := e.y / k) hpx hpy hk rfl rfl).mono ?_
      rintro e' w2 ⟨⟨u, v, rfl⟩, hb2⟩
      have hb2H := Lib.hid (show Below wr.heap.size wr w2 by exact bel_)
      have hs2 : wr.heap.size ≤ w2.heap.size := hb2H.out.size
      clear hb2
      obtain ⟨r, hr⟩ : ∃ r, e.x / k = r := ⟨_, rfl⟩
      obtain ⟨s, hs⟩ : ∃ s, e.y / k = s := ⟨_, rfl⟩
      rw [hr, hs] at htk ⊢
      clear hr hs
      go_wp2_with (at_builtin; refine wpList_append_own_at _ rfl _ _ 27 rfl (w.heap.size + 1) 52 i0 (.agg #[.int .i64 0, .int .i64 0]) 2 16 Try.underlying27 hi hz0 hz1 hz2 rfl (by decide) (.slice A1 j c1) j (ptCells ((xs.map (blkP k)).take j)) rfl ((ownsRow_below hO.out (by have hb2 := hb2H.out; exact bel_)).alloc _) ⟨w2.heap.size + 1 + 1, 0, none⟩ 1 1 [.int .i64 r, .int .i64 s] rfl rfl (cell_pt2n _ _ _ _ _ (by simp)) (fun x hx => by simp at hx; rcases hx with rfl | rfl <;> rfl) (by unfold maxLen; omega) (by omega) (by simp; omega) ?_; intro v5 w5 hown5 hgrow5 _ hat5; have hown5H := Lib.hid hown5; have hgrow5H := Lib.hid hgrow5; clear hown5 hgrow5 hat5)
      have hbX : Below (w.heap.size + 1) wr w5 := (show Below (w.heap.size + 1) wr _ from (hb2H.out.mono (by omega)).trans (bl_al (bl_al (bl_refl _) _) _ |>.mono (by omega))).trans (below_app (by simp; omega) (fun g e => (hO.out.lt g e).1) hgrow5H.out)
      have hs5 : w.heap.size + 1 ≤ w5.heap.size := by have := hbX.size; omega
      have hbXH := Lib.hid hbX
      clear hbX
      go_roundg (n - (j + 1))
      case measure => omega
      case rel =>
        refine ⟨j + 1, by omega, by go_num, Lib.hid ?_, Lib.hid ?_, hs5, Lib.hid (fun h => by omega)⟩
        · rw [htk.out, ptCells_snoc]; exact hown5H.out
        · exact hbw.out.trans (hbXH.out.mono (by omega))
    · obtain rfl : j = n := by omega
      have ht := Lib.hid (show (xs.map (blkP k)).take j = xs.map (blkP k) from List.take_of_length_le (by rw [List.length_map, hl.out]; exact Nat.le_refl _))
      have hml : (xs.map (blkP k)).length = j := by rw [List.length_map]; exact hl.out
      have hO2 := hO.out
      rw [ht.out] at hO2
      have hss := sortedShape_any (w.heap.size + 1) (.slice A1 j c1) (xs.map (blkP k)) wr (by rw [hml]; exact hO2) (by rw [hml]; omega) (by rw [hml]; exact hzz.out)
      have hssH := Lib.hid hss
      clear hss hO2 hml
      go_wp2_with (go_at_call 73; refine hssH.out.mono ?_; rintro e w3 ⟨v3, rfl, hown3, hb3⟩; have hown3H := Lib.hid hown3; have hb3H := Lib.hid hb3; clear hown3 hb3)
      go_ret
      exact ⟨_, rfl, ownsRow_baseQ hown3H.out hszl, hbw.out.trans (hb3H.out.mono hszl)⟩
end Go.Proofs.Ytkfjojpohcieeaa
/- Walk: is a block complete? -/


namespace Go.Proofs.Ytkfjojpohcieeaa
open Go.RowKit Go.Shelf
attribute [local go_sem] BelowBy.cell BelowBy.cell_drew stillUpon givesUpon

set_option maxRecDepth 100000 in
set_option maxHeartbeats 4000000 in
theorem complete_any {A : Option Addr} {n c k : Nat} {xs : List Pl} {x y r : Int} {w : World} (h : RdSl 3 RPl w A n xs) (hf : hasFormB xs = true) (hk : 1 ≤ k ∧ k ≤ 4) (hx : -1000 ≤ x ∧ x ≤ 1000) (hy : -1000 ≤ y ∧ y ≤ 1000) (hr : compI xs k ⟨x, y⟩ = r) :
    Calls Try.prog 45 #[.agg #[.slice A n c], .agg #[.int .i64 x, .int .i64 y], .int .i64 (k : Int)] w fun e w' => e = .returned (.int .i64 r) ∧ Below w.heap.size w w' := by
  have hV := Lib.hid (form_valid hf)
  have hrg := Lib.hid (vB_rng hf k ⟨x, y⟩)
  have hsq := Lib.hid (sq_cases hk)
  have hbad := Lib.hid (fun (i : Nat) (hi : i < k * k) (ho : okC (vB xs k ⟨x, y⟩) (k * k) i = false) => hr.symm.trans (compI_bad hi ho))
  have hgood := Lib.hid (fun (ho : ∀ i, i < k * k → okC (vB xs k ⟨x, y⟩) (k * k) i = true) => hr.symm.trans (compI_good ho))
  have hdef := Lib.hid (fun (i : Nat) => (show atI xs ((k : Int) * x + ((i % k : Nat) : Int)) ((k : Int) * y + ((i / k : Nat) : Int)) = vB xs k ⟨x, y⟩ i from rfl))
  have hget := Lib.hid (fun (i : Nat) (hi : i < k * k) => rect_get hk hi)
  obtain ⟨F, hF⟩ : ∃ F, vB xs k ⟨x, y⟩ = F := ⟨_, rfl⟩
  obtain ⟨K, hK⟩ : ∃ K, k * k = K := ⟨_, rfl⟩
  rw [hF] at hrg hbad hgood hdef
  rw [hK] at hsq hbad hgood hget
  have hKK : (k : Int) * (k : Int) = (K : Int) := by rw [← hK]; push_cast; rfl
  have hK1 : 1 ≤ K ∧ K ≤ 16 := by have := hsq.out; omega
  have hKH := Lib.hid hK
  have hH := Lib.hid h
  clear h hf hr hF hK
  go_enter Try.func45, Try.ntmps45
  go_wp2_with fail
  refine (cells_any hk).mono ?_
  rintro e w1 ⟨v, rfl, hown, hb1⟩
  rw [hKH.out] at hown
  obtain ⟨A1, c1, rfl⟩ := ownsRow_form hown
  have hrd := Lib.hid (rdPts hown (by rw [rectP_len]; exact hKH.out.symm))
  have x0 : w1.cell? ⟨w.heap.size, 0, none⟩ = some (.slice A n c) := (hb1.cell (p := ⟨w.heap.size, 0, none⟩) (by simp; try omega)).trans (by go_simp)
  have x1 : w1.cell? ⟨w.heap.size + 1, 0, none⟩ = some (.int .i64 x) := (hb1.cell (p := ⟨w.heap.size + 1, 0, none⟩) (by simp; try omega)).trans (by go_simp)
  have x2 : w1.cell? ⟨w.heap.size + 1, 1, none⟩ = some (.int .i64 y) := (hb1.cell (p := ⟨w.heap.size + 1, 1, none⟩) (by simp; try omega)).trans (by go_simp)
  have hs1 : w.heap.size + 1 < w1.heap.size := by have := hb1.size; simp at this; omega
  have hb1H := Lib.hid (show Below w.heap.size w w1 by exact bel_)
  have x0H := Lib.hid x0
  have x1H := Lib.hid x1
  have x2H := Lib.hid x2
  clear hown hb1 x0 x1 x2
  have hkI : 1 ≤ (k : Int) ∧ (k : Int) ≤ 4 := by omega
  go_wp2
  go_loopg [14, 7] K (fun g i t wr => ∃ (j : Nat) (tv : Int), j + g = K ∧ i = .int .i64 (j : Int) ∧ t = .int .i64 tv ∧ Hid (tv = if j = 0 then -1 else F (j - 1) - ((j : Int) - 1)) ∧ (-100 ≤ tv ∧ tv ≤ 200) ∧ Hid (∀ i, i < j → okC F K i = true) ∧ Hid (Below w1.heap.size w1 wr))
  case atStart => exact ⟨0, -1, by omega, rfl, rfl, Lib.hid (by simp), by omega, Lib.hid (fun i hi => by omega), Lib.hid (Below.refl _ _)⟩
  case round =>
    obtain ⟨j, tv, hj, rfl, rfl, htv, htr, hok, hbw⟩ := hrel
    have hszl := hbw.out.size
    by_cases hjK : j < K
    · have hrdw := hrd.out.below RPt.stable hbw.out
      obtain ⟨bb, ob, rfl, hbb, hbc⟩ := hrdw.ptr (by omega)
      obtain ⟨c0, c1'⟩ := hbc j _ (hget.out j hjK)
      have y0 := (hbw.out.cell (p := ⟨w.heap.size, 0, none⟩) (by simp; omega)).trans x0H.out
      have y1 := (hbw.out.cell (p := ⟨w.heap.size + 1, 0, none⟩) (by simp; omega)).trans x1H.out
      have y2 := (hbw.out.cell (p := ⟨w.heap.size + 1, 1, none⟩) (by simp; omega)).trans x2H.out
      have l0 : w.heap.size < wr.heap.size := by omega
      have l1 : w.heap.size + 1 < wr.heap.size := by omega
      have hbq : Below w.heap.size w wr := hb1H.out.trans (hbw.out.mono (by omega))
      have hat := hdef.out j
      have hcx : j % k < k := Nat.mod_lt _ (by omega)
      have hcy : j / k < k := Nat.div_lt_of_lt_mul (by rw [hKH.out]; exact hjK)
      obtain ⟨cx, ecx⟩ : ∃ cx, j % k = cx := ⟨_, rfl⟩
      obtain ⟨cy, ecy⟩ : ∃ cy, j / k = cy := ⟨_, rfl⟩
      simp only [ecx] at c0 c1' hat hcx
      simp only [ecy] at c0 c1' hat hcy
      have hcx2 : 0 ≤ (cx : Int) ∧ (cx : Int) ≤ 4 := by omega
      have hcy2 : 0 ≤ (cy : Int) ∧ (cy : Int) ≤ 4 := by omega
      obtain ⟨fv, hfv⟩ : ∃ fv, F j = fv := ⟨_, rfl⟩
      have hfr := hrg.out j
      rw [hfv] at hat hfr
      have hatH := Lib.hid hat
      have hfvH := Lib.hid hfv
      obtain ⟨d, hd⟩ : ∃ d, fv - (j : Int) = d := ⟨_, rfl⟩
      have hdr : -200 ≤ d ∧ d ≤ 200 := by omega
      have hprev := Lib.hid (fun (h0 : 0 < j) => hok.out (j - 1) (by omega))
      clear hat ecx ecy hcx hcy hfv hbc hrdw
      cases hb : okC F K j
      · have hno := okC_noI hsq.out hjK hprev.out hb
        have hres := Lib.hid (hbad.out j hjK hb)
        rw [hfvH.out, hd] at hno
        clear hb
        rcases hno with h1 | ⟨h1, h2⟩ | ⟨h1, h2, h3, h4⟩
        · clear hprev
          go_wp2
          refine wp_region_ord [(0, .q), (1, .q), (2, .q), (3, .q), (6, .q), (4, .g), (5, .g), (7, .q), (8, .q)] (by kernel_rfl) (by kernel_rfl) ?_
          simp only [pick, List.filterMap_cons, List.filterMap_nil, List.getElem?_toArray, List.getElem?_cons_zero, List.getElem?_cons_succ, Option.map_some]
          repeat (first
            | ((with_reducible refine wpD_p (fun K hK => ?_)); go_simp; refine hK _ ?_; clear hK K)
            | ((with_reducible refine wpD_q (fun K hK => ?_)); go_simp; (first | refine hK _ ?_ | (go_bits; refine hK _ ?_) | (go_bits; go_simp; refine hK _ ?_)); clear hK K)
            | ((with_reducible refine wpD_g (fun K hK => ?_)); go_simp; refine hK _ _ ?_; clear hK K)
            | ((with_reducible refine wpD_g (fun K hK => ?_)); go_simp; refine ⟨Grew.of_alloc _, hK _ _ ?_⟩; clear hK K)
            | ((with_reducible refine wpD_g (fun K hK => ?_)); go_simp; go_at_call 76; refine (pointOf_any hx hy hkI hcx2 hcy2 rfl rfl).mono ?_; rintro e w2 ⟨rfl, hb2⟩; refine ⟨_, rfl, hb2, hK _ _ ?_⟩; clear hK K; obtain ⟨chb2, fhb2, shb2, thb2⟩ := bcell hb2; (try have bhb20 := shb2 (w.heap.size) (by go_simp)))
            | ((with_reducible refine wpD_g (fun K hK => ?_)); go_simp; go_at_call 75; refine (at_at (hH.out.below RPl.stable (by exact bel_)) hV.out hatH.out).mono ?_; rintro e w3 ⟨rfl, hb3⟩; refine ⟨_, rfl, hb3, hK _ _ ?_⟩; clear hK K; obtain ⟨chb3, fhb3, shb3, thb3⟩ := bcell hb3; (try have bhb30 := shb3 (w.heap.size) (by go_simp))))
          with_reducible refine wpD_nil ?_
          have hb3H := Lib.hid (show Below w.heap.size w w3 by exact bel_)
          have hbwO := hbw.out
          have hb3W := Lib.hid (show Below w1.heap.size w1 w3 by exact bel_)
          clear hbwO
          go_wp2
          go_ret
          exact ⟨ret_int hres.out.symm, hb3H.out⟩
        · clear hprev
          go_wp2
          refine wp_region_ord [(0, .q), (1, .q), (2, .q), (3, .q), (6, .q), (4, .g), (5, .g), (7, .q), (8, .q)] (by kernel_rfl) (by kernel_rfl) ?_
          simp only [pick, List.filterMap_cons, List.filterMap_nil, List.getElem?_toArray, List.getElem?_cons_zero, List.getElem?_cons_succ, Option.map_some]
          repeat (first
            | ((with_reducible refine wpD_p (fun K hK => ?_)); go_simp; refine hK _ ?_; clear hK K)
            | ((with_reducible refine wpD_q (fun K hK => ?_)); go_simp; (first | refine hK _ ?_ | (go_bits; refine hK _ ?_) | (go_bits; go_simp; refine hK _ ?_)); clear hK K)
            | ((with_reducible refine wpD_g (fun K hK => ?_)); go_simp; refine hK _ _ ?_; clear hK K)
            | ((with_reducible refine wpD_g (fun K hK => ?_)); go_simp; refine ⟨Grew.of_alloc _, hK _ _ ?_⟩; clear hK K)
            | ((with_reducible refine wpD_g (fun K hK => ?_)); go_simp; go_at_call 76; refine (pointOf_any hx hy hkI hcx2 hcy2 rfl rfl).mono ?_; rintro e w2 ⟨rfl, hb2⟩; refine ⟨_, rfl, hb2, hK _ _ ?_⟩; clear hK K; obtain ⟨chb2, fhb2, shb2, thb2⟩ := bcell hb2; (try have bhb20 := shb2 (w.heap.size) (by go_simp)))
            | ((with_reducible refine wpD_g (fun K hK => ?_)); go_simp; go_at_call 75; refine (at_at (hH.out.below RPl.stable (by exact bel_)) hV.out hatH.out).mono ?_; rintro e w3 ⟨rfl, hb3⟩; refine ⟨_, rfl, hb3, hK _ _ ?_⟩; clear hK K; obtain ⟨chb3, fhb3, shb3, thb3⟩ := bcell hb3; (try have bhb30 := shb3 (w.heap.size) (by go_simp))))
          with_reducible refine wpD_nil ?_
          have hb3H := Lib.hid (show Below w.heap.size w w3 by exact bel_)
          have hbwO := hbw.out
          have hb3W := Lib.hid (show Below w1.heap.size w1 w3 by exact bel_)
          clear hbwO
          go_wp2
          go_ret
          exact ⟨ret_int hres.out.symm, hb3H.out⟩
        · have htv2 : tv = F (j - 1) - ((j : Int) - 1) := by rw [htv.out, if_neg (by omega)]
          rw [← htv2] at h4
          have hne : (d != tv) = true := by simpa using h4
          have hj0 : (0 : Int) < (j : Int) := by omega
          clear hprev htv2
          go_wp2
          refine wp_region_ord [(0, .q), (1, .q), (2, .q), (3, .q), (6, .q), (4, .g), (5, .g), (7, .q), (8, .q)] (by kernel_rfl) (by kernel_rfl) ?_
          simp only [pick, List.filterMap_cons, List.filterMap_nil, List.getElem?_toArray, List.getElem?_cons_zero, List.getElem?_cons_succ, Option.map_some]
          repeat (first
            | ((with_reducible refine wpD_p (fun K hK => ?_)); go_simp; refine hK _ ?_; clear hK K)
            | ((with_reducible refine wpD_q (fun K hK => ?_)); go_simp; (first | refine hK _ ?_ | (go_bits; refine hK _ ?_) | (go_bits; go_simp; refine hK _ ?_)); clear hK K)
            | ((with_reducible refine wpD_g (fun K hK => ?_)); go_simp; refine hK _ _ ?_; clear hK K)
            | ((with_reducible refine wpD_g (fun K hK => ?_)); go_simp; refine ⟨Grew.of_alloc _, hK _ _ ?_⟩; clear hK K)
            | ((with_reducible refine wpD_g (fun K hK => ?_)); go_simp; go_at_call 76; refine (pointOf_any hx hy hkI hcx2 hcy2 rfl rfl).mono ?_; rintro e w2 ⟨rfl, hb2⟩; refine ⟨_, rfl, hb2, hK _ _ ?_⟩; clear hK K; obtain ⟨chb2, fhb2, shb2, thb2⟩ := bcell hb2; (try have bhb20 := shb2 (w.heap.size) (by go_simp)))
            | ((with_reducible refine wpD_g (fun K hK => ?_)); go_simp; go_at_call 75; refine (at_at (hH.out.below RPl.stable (by exact bel_)) hV.out hatH.out).mono ?_; rintro e w3 ⟨rfl, hb3⟩; refine ⟨_, rfl, hb3, hK _ _ ?_⟩; clear hK K; obtain ⟨chb3, fhb3, shb3, thb3⟩ := bcell hb3; (try have bhb30 := shb3 (w.heap.size) (by go_simp))))
          with_reducible refine wpD_nil ?_
          have hb3H := Lib.hid (show Below w.heap.size w w3 by exact bel_)
          have hbwO := hbw.out
          have hb3W := Lib.hid (show Below w1.heap.size w1 w3 by exact bel_)
          clear hbwO
          go_wp2
          go_ret
          exact ⟨ret_int hres.out.symm, hb3H.out⟩
      · obtain ⟨h1, h2, h3⟩ := okC_yesI hsq.out hjK hprev.out hb
        rw [hfvH.out, hd] at h1 h2 h3
        have hok2 := Lib.hid (show ∀ i, i < j + 1 → okC F K i = true from fun i hi => by
          rcases Nat.lt_succ_iff_lt_or_eq.1 hi with h | rfl
          · exact hok.out i h
          · exact hb)
        have htv2 := Lib.hid (show d = if j + 1 = 0 then -1 else F (j + 1 - 1) - (((j + 1 : Nat) : Int) - 1) by rw [if_neg (by omega), Nat.add_sub_cancel, hfvH.out]; omega)
        clear hb
        rcases Nat.eq_zero_or_pos j with h0 | h0
        · have hj0 : ¬ (0 : Int) < (j : Int) := by omega
          clear h3 hprev h0
          go_wp2
          refine wp_region_ord [(0, .q), (1, .q), (2, .q), (3, .q), (6, .q), (4, .g), (5, .g), (7, .q), (8, .q)] (by kernel_rfl) (by kernel_rfl) ?_
          simp only [pick, List.filterMap_cons, List.filterMap_nil, List.getElem?_toArray, List.getElem?_cons_zero, List.getElem?_cons_succ, Option.map_some]
          repeat (first
            | ((with_reducible refine wpD_p (fun K hK => ?_)); go_simp; refine hK _ ?_; clear hK K)
            | ((with_reducible refine wpD_q (fun K hK => ?_)); go_simp; (first | refine hK _ ?_ | (go_bits; refine hK _ ?_) | (go_bits; go_simp; refine hK _ ?_)); clear hK K)
            | ((with_reducible refine wpD_g (fun K hK => ?_)); go_simp; refine hK _ _ ?_; clear hK K)
            | ((with_reducible refine wpD_g (fun K hK => ?_)); go_simp; refine ⟨Grew.of_alloc _, hK _ _ ?_⟩; clear hK K)
            | ((with_reducible refine wpD_g (fun K hK => ?_)); go_simp; go_at_call 76; refine (pointOf_any hx hy hkI hcx2 hcy2 rfl rfl).mono ?_; rintro e w2 ⟨rfl, hb2⟩; refine ⟨_, rfl, hb2, hK _ _ ?_⟩; clear hK K; obtain ⟨chb2, fhb2, shb2, thb2⟩ := bcell hb2; (try have bhb20 := shb2 (w.heap.size) (by go_simp)))
            | ((with_reducible refine wpD_g (fun K hK => ?_)); go_simp; go_at_call 75; refine (at_at (hH.out.below RPl.stable (by exact bel_)) hV.out hatH.out).mono ?_; rintro e w3 ⟨rfl, hb3⟩; refine ⟨_, rfl, hb3, hK _ _ ?_⟩; clear hK K; obtain ⟨chb3, fhb3, shb3, thb3⟩ := bcell hb3; (try have bhb30 := shb3 (w.heap.size) (by go_simp))))
          with_reducible refine wpD_nil ?_
          have hb3H := Lib.hid (show Below w.heap.size w w3 by exact bel_)
          have hbwO := hbw.out
          have hb3W := Lib.hid (show Below w1.heap.size w1 w3 by exact bel_)
          clear hbwO
          go_wp2
          go_roundg (K - (j + 1))
          case measure => omega
          case rel => exact ⟨j + 1, d, by omega, by go_num, rfl, htv2, (by omega), hok2, hb3W⟩
        · have h4 : d = tv := by
            rcases h3 with h | h
            · omega
            · rw [h, htv.out, if_neg (by omega)]
          have hj0 : (0 : Int) < (j : Int) := by omega
          clear h3 hprev
          subst h4
          go_wp2
          refine wp_region_ord [(0, .q), (1, .q), (2, .q), (3, .q), (6, .q), (4, .g), (5, .g), (7, .q), (8, .q)] (by kernel_rfl) (by kernel_rfl) ?_
          simp only [pick, List.filterMap_cons, List.filterMap_nil, List.getElem?_toArray, List.getElem?_cons_zero, List.getElem?_cons_succ, Option.map_some]
          repeat (first
            | ((with_reducible refine wpD_p (fun K hK => ?_)); go_simp; refine hK _ ?_; clear hK K)
            | ((with_reducible refine wpD_q (fun K hK => ?_)); go_simp; (first | refine hK _ ?_ | (go_bits; refine hK _ ?_) | (go_bits; go_simp; refine hK _ ?_)); clear hK K)
            | ((with_reducible refine wpD_g (fun K hK => ?_)); go_simp; refine hK _ _ ?_; clear hK K)
            | ((with_reducible refine wpD_g (fun K hK => ?_)); go_simp; refine ⟨Grew.of_alloc _, hK _ _ ?_⟩; clear hK K)
            | ((with_reducible refine wpD_g (fun K hK => ?_)); go_simp; go_at_call 76; refine (pointOf_any hx hy hkI hcx2 hcy2 rfl rfl).mono ?_; rintro e w2 ⟨rfl, hb2⟩; refine ⟨_, rfl, hb2, hK _ _ ?_⟩; clear hK K; obtain ⟨chb2, fhb2, shb2, thb2⟩ := bcell hb2; (try have bhb20 := shb2 (w.heap.size) (by go_simp)))
            | ((with_reducible refine wpD_g (fun K hK => ?_)); go_simp; go_at_call 75; refine (at_at (hH.out.below RPl.stable (by exact bel_)) hV.out hatH.out).mono ?_; rintro e w3 ⟨rfl, hb3⟩; refine ⟨_, rfl, hb3, hK _ _ ?_⟩; clear hK K; obtain ⟨chb3, fhb3, shb3, thb3⟩ := bcell hb3; (try have bhb30 := shb3 (w.heap.size) (by go_simp))))
          with_reducible refine wpD_nil ?_
          have hb3H := Lib.hid (show Below w.heap.size w w3 by exact bel_)
          have hbwO := hbw.out
          have hb3W := Lib.hid (show Below w1.heap.size w1 w3 by exact bel_)
          clear hbwO
          go_wp2
          go_roundg (K - (j + 1))
          case measure => omega
          case rel => exact ⟨j + 1, d, by omega, by go_num, rfl, htv2, (by omega), hok2, hb3W⟩
    · obtain rfl : j = K := by omega
      obtain ⟨m, hm⟩ : ∃ m, j = m + 1 := ⟨j - 1, by omega⟩
      have hend := compI_endI hsq.out (hok.out (j - 1) (by omega))
      have hg := hgood.out hok.out
      rw [← hend] at hg
      have htv2 := htv.out
      rw [if_neg (by omega)] at htv2
      rw [← htv2] at hg
      have hgH := Lib.hid hg
      have htv0 : 0 ≤ tv := by
        have hprev := fun (h0 : 0 < j - 1) => hok.out (j - 1 - 1) (by omega)
        have := (okC_yesI hsq.out (show j - 1 < j by omega) hprev (hok.out (j - 1) (by omega))).1
        omega
      have hbq : Below w.heap.size w wr := hb1H.out.trans (hbw.out.mono (by omega))
      clear hend hg htv2 hm
      go_wp2
      go_ret
      exact ⟨ret_int hgH.out.symm, hbq⟩
end Go.Proofs.Ytkfjojpohcieeaa
/- Walks: PartialBlocks of the program. -/

namespace Go.Proofs.Ytkfjojpohcieeaa
open Go.RowKit Go.Shelf
attribute [local go_sem] BelowBy.cell BelowBy.cell_drew stillUpon givesUpon

/-- what is wrong with the question -/
def blkCode (xs : List Pl) (k : Int) : Int := if hasFormB xs then (if inB k 1 4 then 0 else 2) else 1
noncomputable def delC (xs : List Pl) (k : Nat) (b : Pt) : Bool := decide (0 ≤ compI xs k b)
noncomputable def parB (xs : List Pl) (k : Nat) : List Pt := (blocksP k xs).filter fun b => !(delC xs k b)
noncomputable def parR (xs : List Pl) (k : Int) : List Pt × Int := if blkCode xs k = 0 then (parB xs k.toNat, 0) else ([], blkCode xs k)
theorem parR_len (xs : List Pl) (k : Int) : (parR xs k).1.length ≤ 1073741824 := by
  unfold parR
  by_cases h : blkCode xs k = 0
  · rw [if_pos h]
    have hf : hasFormB xs = true := by
      unfold blkCode at h
      cases hx : hasFormB xs
      · rw [hx] at h; simp at h
      · rfl
    have h1 := form_len hf
    have h2 := putAll_len (xs.map (blkP ((k.toNat : Nat) : Int))) []
    rw [List.length_map] at h2
    have h3 : (parB xs k.toNat).length ≤ (blocksP ((k.toNat : Nat) : Int) xs).length := List.length_filter_le _ _
    unfold blocksP at h3
    simp only [List.length_nil] at h2
    show (parB xs k.toNat).length ≤ 1073741824
    omega
  · rw [if_neg h]; simp
theorem blocksP_len {xs : List Pl} (hf : hasFormB xs = true) (k : Int) : (blocksP k xs).length ≤ 500 := by
  have h1 := form_len hf
  have h2 := putAll_len (xs.map (blkP k)) []
  rw [List.length_map] at h2
  unfold blocksP
  simp only [List.length_nil] at h2
  omega
theorem blocksP_rng {xs : List Pl} (hf : hasFormB xs = true) {k : Int} (hk : 1 ≤ k ∧ k ≤ 4) {b : Pt} (hb : b ∈ blocksP k xs) : (-1000 ≤ b.x ∧ b.x ≤ 1000) ∧ (-1000 ≤ b.y ∧ b.y ≤ 1000) := by
  unfold blocksP at hb
  rw [putAll_mem] at hb
  rcases hb with hb | hb
  · simp at hb
  · obtain ⟨e, he, rfl⟩ := List.mem_map.1 hb
    obtain ⟨i, hi⟩ := List.mem_iff_getElem?.1 he
    have := (form_valid hf).pt i e hi
    unfold blkP
    simp only
    have h4 : k = 1 ∨ k = 2 ∨ k = 3 ∨ k = 4 := by omega
    rcases h4 with rfl | rfl | rfl | rfl <;> omega
theorem RdSl.gbP {g : Nat} {w W : World} {A : Option Addr} {n : Nat} {xs : List Pl} (h : RdSl 3 RPl w A n xs) (hA : 0 < n → ∀ b o, A = some ⟨b, o, none⟩ → b ≠ g) (hb : Gb g w W) : RdSl 3 RPl W A n xs :=
  ⟨h.len, fun hn => by
    obtain ⟨b, o, e, hlt, hc⟩ := h.cells hn
    exact ⟨b, o, e, Nat.lt_of_lt_of_le hlt hb.size, fun k hk => ⟨(hb.cell (o := o + k * 3) hlt (hA hn b o e)).trans (hc k hk).1, (hb.cell (o := o + k * 3 + 1) hlt (hA hn b o e)).trans (hc k hk).2.1, (hb.cell (o := o + k * 3 + 2) hlt (hA hn b o e)).trans (hc k hk).2.2⟩⟩⟩
theorem blockSizeOkU_at (x : Int) (w : World) {v : Bool} (h : inB x 1 4 = v) : Calls Try.prog 65 #[.int .i64 x] w fun e w' => e = .returned (.bool v) ∧ w = w' := by
  go_enter Try.func65, Try.ntmps65
  go_wp2_with (go_at_call 82; refine (within_at h).mono ?_; rintro e _ ⟨rfl, rfl⟩)
  go_ret
  exact ⟨rfl, rfl⟩
theorem blockCode_at {A : Option Addr} {n c : Nat} {xs : List Pl} {k r : Int} {w : World} (h : RdSl 3 RPl w A n xs) (hn : n ≤ 1073741824) (hr : blkCode xs k = r) :
    Calls Try.prog 35 #[.agg #[.slice A n c], .int .i64 k] w fun e w' => e = .returned (.int .i64 r) ∧ Below w.heap.size w w' := by
  subst hr
  have hH := Lib.hid h
  clear h
  cases hf : hasFormB xs
  · have hR := Lib.hid (show blkCode xs k = 1 by unfold blkCode; rw [hf]; rfl)
    have hfH := Lib.hid hf
    clear hf
    go_enter Try.func35, Try.ntmps35
    go_wp2_with (go_at_call 64; refine (hasForm_any _ _ _ xs _ (hH.out.below RPl.stable (by exact bel_)) hn).mono ?_; rw [hfH.out]; rintro e w1 ⟨rfl, hb1⟩; have hb1H := Lib.hid (show Below w.heap.size w w1 by exact bel_); clear hb1)
    go_ret
    exact ⟨ret_int hR.out.symm, hb1H.out⟩
  · cases hi : inB k 1 4
    · have hR := Lib.hid (show blkCode xs k = 2 by unfold blkCode; rw [hf, hi]; rfl)
      have hfH := Lib.hid hf
      have hiH := Lib.hid hi
      clear hf hi
      go_enter Try.func35, Try.ntmps35
      go_wp2_with (first
        | (go_at_call 64; refine (hasForm_any _ _ _ xs _ (hH.out.below RPl.stable (by exact bel_)) hn).mono ?_; rw [hfH.out]; rintro e w1 ⟨rfl, hb1⟩; have hb1H := Lib.hid (show Below w.heap.size w w1 by exact bel_); clear hb1)
        | (go_at_call 65; refine (blockSizeOkU_at _ _ hiH.out).mono ?_; rintro e _ ⟨rfl, rfl⟩))
      go_ret
      exact ⟨ret_int hR.out.symm, hb1H.out⟩
    · have hR := Lib.hid (show blkCode xs k = 0 by unfold blkCode; rw [hf, hi]; rfl)
      have hfH := Lib.hid hf
      have hiH := Lib.hid hi
      clear hf hi
      go_enter Try.func35, Try.ntmps35
      go_wp2_with (first
        | (go_at_call 64; refine (hasForm_any _ _ _ xs _ (hH.out.below RPl.stable (by exact bel_)) hn).mono ?_; rw [hfH.out]; rintro e w1 ⟨rfl, hb1⟩; have hb1H := Lib.hid (show Below w.heap.size w w1 by exact bel_); clear hb1)
        | (go_at_call 65; refine (blockSizeOkU_at _ _ hiH.out).mono ?_; rintro e _ ⟨rfl, rfl⟩))
      go_ret
      exact ⟨ret_int hR.out.symm, hb1H.out⟩
theorem blkCode_zero {xs : List Pl} {k : Int} (h : blkCode xs k = 0) : hasFormB xs = true ∧ 1 ≤ k ∧ k ≤ 4 := by
  unfold blkCode at h
  cases hx : hasFormB xs
  · rw [hx] at h; simp at h
  · cases hi : inB k 1 4
    · rw [hx, hi] at h; simp at h
    · exact ⟨rfl, inB_true.1 hi⟩
/-- the closure: is the block complete -/
theorem par1_any {p q n c k : Nat} {A : Option Addr} {xs : List Pl} {e : Pt} {w : World} (hp : w.cell? ⟨p, 0, none⟩ = some (.slice A n c)) (hlt : p < w.heap.size) (hq : w.cell? ⟨q, 0, none⟩ = some (.int .i64 (k : Int))) (hltq : q < w.heap.size) (h : RdSl 3 RPl w A n xs) (hf : hasFormB xs = true) (hk : 1 ≤ k ∧ k ≤ 4) (hx : (-1000 ≤ e.x ∧ e.x ≤ 1000) ∧ (-1000 ≤ e.y ∧ e.y ≤ 1000)) :
    Calls Try.prog 44 #[.agg #[.int .i64 e.x, .int .i64 e.y], .pointer (some ⟨p, 0, none⟩), .pointer (some ⟨q, 0, none⟩)] w fun e' w' => e' = .returned (.bool (delC xs k e)) ∧ Below w.heap.size w w' := by
  have hH := Lib.hid h
  have hfH := Lib.hid hf
  have hpl := Nat.le_of_lt hlt
  have hql := Nat.le_of_lt hltq
  obtain ⟨r, hr⟩ : ∃ r, compI xs k ⟨e.x, e.y⟩ = r := ⟨_, rfl⟩
  have hd : delC xs k e = decide (0 ≤ r) := by unfold delC; rw [← hr]
  rw [hd]
  have hrH := Lib.hid hr
  clear h hf hr hd
  go_enter Try.func44, Try.ntmps44
  go_wp2_with fail
  refine (complete_any (hH.out.below RPl.stable (by exact bel_)) hfH.out hk hx.1 hx.2 hrH.out).mono ?_
  rintro e w1 ⟨rfl, hb1⟩
  have hb1H := Lib.hid (show Below w.heap.size w w1 by exact bel_)
  clear hb1
  go_wp2
  go_ret
  exact ⟨rfl, hb1H.out⟩
theorem enters_par1 : ∀ args w, (callFunc 44 args).run Try.prog w = .ok (.enter 44 args) w := enters_of Try.func44 (by kernel_rfl) rfl
theorem IndexFuncP0_any (A : Option Addr) (c : Nat) (fv : Value) (w : World) :
    Calls Try.prog 71 #[.slice A 0 c, fv] w fun e w' => e = .returned (.int .i64 (-1)) ∧ w = w' := by
  go_enter Try.func71, Try.ntmps71
  go_wp2
  refine wp_loop_rounds 1 ?_
  rw [rounds_succ]
  go_wp2
  go_ret
  exact ⟨rfl, rfl⟩
theorem DeleteFuncP0_any (A : Option Addr) (c : Nat) (fv : Value) (w : World) :
    Calls Try.prog 42 #[.slice A 0 c, fv] w fun e w' => e = .returned (.slice A 0 c) ∧ w = w' := by
  go_enter Try.func42, Try.ntmps42
  go_wp2_with (go_at_call 71; refine (IndexFuncP0_any _ _ _ _).mono ?_; rintro e _ ⟨rfl, rfl⟩)
  go_ret
  exact ⟨rfl, rfl⟩
def PtsC (w : World) (r : List Pt × Int) (e : Ending) (w' : World) : Prop :=
  ∃ A c, e = .returned (.tuple #[.slice A r.1.length c, .int .i64 r.2]) ∧ w'.ownsRow w.heap.size 52 2 (.slice A r.1.length c) r.1.length (ptCells r.1) ∧ Below w.heap.size w w'
set_option maxRecDepth 100000 in
set_option maxHeartbeats 4000000 in
theorem PartialBlocks_any (A : Option Addr) (n c : Nat) (xs : List Pl) (k : Int) (w : World) (h : RdSl 3 RPl w A n xs) (hn : n ≤ 1073741824) :
    Calls Try.prog 23 #[.agg #[.slice A n c], .int .i64 k] w (PtsC w (parR xs k)) := by
  have hH := Lib.hid h
  by_cases hc : blkCode xs k = 0
  · have hR := Lib.hid (show parR xs k = (parB xs k.toNat, 0) by unfold parR; rw [if_pos hc])
    obtain ⟨hf, hk1, hk2⟩ := blkCode_zero hc
    obtain ⟨K, rfl⟩ : ∃ K : Nat, k = (K : Int) := ⟨k.toNat, by omega⟩
    have hcH := Lib.hid hc
    have hfH := Lib.hid hf
    have hbl := Lib.hid (blocksP_len hf (K : Int))
    have hrg := Lib.hid (fun (b : Pt) hb => blocksP_rng hf (k := (K : Int)) ⟨hk1, hk2⟩ (b := b) hb)
    have hpB := Lib.hid (show parB xs (K : Int).toNat = keepG (delC xs K) (blocksP (K : Int) xs) (blocksP (K : Int) xs).length by
      unfold keepG; rw [List.take_length]; rfl)
    have hk' : 1 ≤ K ∧ K ≤ 4 := by omega
    have hlt := fun (hn0 : 0 < n) => (h.cells hn0)
    have hltH := Lib.hid hlt
    clear h hc hf hlt
    go_enter Try.func23, Try.ntmps23
    go_wp2_with (go_at_call 35; refine (blockCode_at (hH.out.below RPl.stable (by exact bel_)) hn hcH.out).mono ?_; rintro e w1 ⟨rfl, hb1⟩; have y0 : w1.cell? ⟨w.heap.size, 0, none⟩ = some (.slice A n c) := (hb1.cell (p := ⟨w.heap.size, 0, none⟩) (by simp; try omega)).trans (by go_simp); have y1 : w1.cell? ⟨w.heap.size + 1, 0, none⟩ = some (.int .i64 (K : Int)) := (hb1.cell (p := ⟨w.heap.size + 1, 0, none⟩) (by simp; try omega)).trans (by go_simp); have hs1 : w.heap.size + 2 ≤ w1.heap.size := (by have := hb1.size; simp at this; omega); have l0 : w.heap.size < w1.heap.size := (by omega); have l1 : w.heap.size + 1 < w1.heap.size := (by omega); have hb1H := Lib.hid (show Below w.heap.size w w1 by exact bel_); clear hb1)
    refine (blocks_any (hH.out.below RPl.stable hb1H.out) hfH.out ⟨hk1, hk2⟩).mono ?_
    rintro e w2 ⟨v2, rfl, hown, hb2⟩
    have hs2 := hb2.size
    have z0 := Lib.hid ((hb2.cell (p := ⟨w.heap.size, 0, none⟩) l0).trans y0)
    have z1 := Lib.hid ((hb2.cell (p := ⟨w.heap.size + 1, 0, none⟩) l1).trans y1)
    have hb2H := Lib.hid hb2
    have hxs2 := Lib.hid (hH.out.below RPl.stable (hb1H.out.trans (hb2.mono (by omega))))
    obtain ⟨B, hB⟩ : ∃ B, blocksP (K : Int) xs = B := ⟨_, rfl⟩
    rw [hB] at hown hbl hrg hpB
    have hownH := Lib.hid hown
    have hR2 := hR.out
    rw [hpB.out] at hR2
    have hR2H := Lib.hid hR2
    clear hb2 hR2 hR hpB hB y0 y1
    rcases Nat.eq_zero_or_pos B.length with h0 | h0
    · have hB0 : B = [] := List.eq_nil_of_length_eq_zero h0
      subst hB0
      obtain ⟨A2, c2, rfl⟩ := ownsRow_form hown
      clear hown h0
      simp only [List.length_nil] at hownH
      go_wp2_with (go_at_call 42; refine (DeleteFuncP0_any _ _ _ _).mono ?_; rintro e _ ⟨rfl, rfl⟩)
      go_ret2
      rw [hR2H.out]
      exact ⟨A2, c2, rfl, ownsRow_baseQ hownH.out (by omega), hb1H.out.trans (hb2H.out.mono (by omega))⟩
    · rcases hown.2 with ⟨_, h00⟩ | ⟨g, cap, cur, rfl, hbg, hh, _⟩
      · omega
      have hne : 0 < n → ∀ b o, A = some ⟨b, o, none⟩ → b ≠ g := fun hn0 b o he => by
        obtain ⟨b', o', e', hlt, _⟩ := hltH.out hn0
        rw [he] at e'
        injection e' with e'
        injection e' with e1 e2
        omega
      have hT : Hid (TellsP g w2 44 #[.pointer (some ⟨w.heap.size, 0, none⟩), .pointer (some ⟨w.heap.size + 1, 0, none⟩)] (delC xs K) B) := Lib.hid fun W e hW he =>
        par1_any ((hW.cell (o := 0) (by omega) (by omega)).trans z0.out) (Nat.lt_of_lt_of_le (by omega) hW.size) ((hW.cell (o := 0) (by omega) (by omega)).trans z1.out) (Nat.lt_of_lt_of_le (by omega) hW.size) (hxs2.out.gbP hne hW) hfH.out hk' (hrg.out e he)
      have hcall := DeleteFuncG_any w1.heap.size g cap _ _ enters_par1 (delC xs K) B w2 hownH.out (by have := hbl.out; omega) hT.out
      have hcallH := Lib.hid hcall
      have hbgH := Lib.hid hbg
      clear hown hh hcall hne
      go_wp2_with (go_at_call 42; refine hcallH.out.mono ?_; rintro e w3 ⟨c3, rfl, hown3, hg3⟩; have hown3H := Lib.hid hown3; have hg3H := Lib.hid hg3; clear hown3 hg3)
      go_ret2
      rw [hR2H.out]
      exact ⟨some ⟨g, 0, none⟩, c3, rfl, ownsRow_baseQ hown3H.out (by omega), (hb1H.out.trans (hb2H.out.mono (by omega))).trans (hg3H.out.toBelow (by omega) (by have := hbgH.out; omega))⟩
  · have hR := Lib.hid (show parR xs k = ([], blkCode xs k) by unfold parR; rw [if_neg hc])
    obtain ⟨r, hr⟩ : ∃ r, blkCode xs k = r := ⟨_, rfl⟩
    rw [hr] at hR hc
    have hrH := Lib.hid hr
    have hb : (r != 0) = true := by simpa using hc
    clear h hr
    go_enter Try.func23, Try.ntmps23
    go_wp2_with (go_at_call 35; refine (blockCode_at (hH.out.below RPl.stable (by exact bel_)) hn hrH.out).mono ?_; rintro e w1 ⟨rfl, hb1⟩; have hb1H := Lib.hid (show Below w.heap.size w w1 by exact bel_); clear hb1)
    go_ret2
    rw [hR.out]
    exact ⟨none, 0, rfl, World.ownsRow_nil _ _ _ _, hb1H.out⟩
end Go.Proofs.Ytkfjojpohcieeaa
/- Walk: is a block complete, the reference. -/


namespace Go.Proofs.Ytkfjojpohcieeaa
open Go.RowKit Go.Shelf
attribute [local go_sem] BelowBy.cell BelowBy.cell_drew stillUpon givesUpon

set_option maxRecDepth 100000 in
set_option maxHeartbeats 4000000 in
theorem l26Complete_any {p op k : Nat} {xs : List Pl} {x y r : Int} {w : World} (h : AsmAt w p op xs) (hf : hasFormB xs = true) (hk : 1 ≤ k ∧ k ≤ 4) (hx : -1000 ≤ x ∧ x ≤ 1000) (hy : -1000 ≤ y ∧ y ≤ 1000) (hr : compI xs k ⟨x, y⟩ = r) :
    Calls Try.prog 41 #[.pointer (some ⟨p, op, none⟩), .agg #[.int .i64 x, .int .i64 y], .int .i64 (k : Int)] w fun e w' => e = .returned (.int .i64 r) ∧ Below w.heap.size w w' := by
  have hV := Lib.hid (form_valid hf)
  have hrg := Lib.hid (vB_rng hf k ⟨x, y⟩)
  have hsq := Lib.hid (sq_cases hk)
  have hbad := Lib.hid (fun (i : Nat) (hi : i < k * k) (ho : okC (vB xs k ⟨x, y⟩) (k * k) i = false) => hr.symm.trans (compI_bad hi ho))
  have hgood := Lib.hid (fun (ho : ∀ i, i < k * k → okC (vB xs k ⟨x, y⟩) (k * k) i = true) => hr.symm.trans (compI_good ho))
  have hdef := Lib.hid (fun (i : Nat) => (show atI xs ((k : Int) * x + ((i % k : Nat) : Int)) ((k : Int) * y + ((i / k : Nat) : Int)) = vB xs k ⟨x, y⟩ i from rfl))
  have hget := Lib.hid (fun (i : Nat) (hi : i < k * k) => rect_get hk hi)
  obtain ⟨F, hF⟩ : ∃ F, vB xs k ⟨x, y⟩ = F := ⟨_, rfl⟩
  obtain ⟨K, hK⟩ : ∃ K, k * k = K := ⟨_, rfl⟩
  rw [hF] at hrg hbad hgood hdef
  rw [hK] at hsq hbad hgood hget
  have hKK : (k : Int) * (k : Int) = (K : Int) := by rw [← hK]; push_cast; rfl
  have hK1 : 1 ≤ K ∧ K ≤ 16 := by have := hsq.out; omega
  have hKH := Lib.hid hK
  have hH := Lib.hid h
  clear h hf hr hF hK
  have hkI : 1 ≤ (k : Int) ∧ (k : Int) ≤ 4 := by omega
  go_enter Try.func41, Try.ntmps41
  go_wp2
  go_loopg [8, 7] K (fun g i t wr => ∃ (j : Nat) (tv : Int), j + g = K ∧ i = .int .i64 (j : Int) ∧ t = .int .i64 tv ∧ Hid (tv = if j = 0 then -1 else F (j - 1) / (K : Int)) ∧ (-100 ≤ tv ∧ tv ≤ 200) ∧ Hid (∀ i, i < j → okC F K i = true) ∧ Hid (Below w.heap.size w wr) ∧ wr.cell? ⟨w.heap.size, 0, none⟩ = some (.int .i64 x) ∧ wr.cell? ⟨w.heap.size, 1, none⟩ = some (.int .i64 y) ∧ w.heap.size < wr.heap.size)
  case atStart => exact ⟨0, -1, by omega, rfl, rfl, Lib.hid (by simp), by omega, Lib.hid (fun i hi => by omega), Lib.hid (by exact bel_), by go_simp, by go_simp, by simp⟩
  case round =>
    obtain ⟨j, tv, hj, rfl, rfl, htv, htr, hok, hbw, y1, y2, l0⟩ := hrel
    have hjKi : (j : Int) < (K : Int) ↔ j < K := by omega
    by_cases hjK : j < K
    · have hjK2 : (j : Int) < (K : Int) := by omega
      have hbq := hbw.out
      have hat := hdef.out j
      have hcx : j % k < k := Nat.mod_lt _ (by omega)
      have hcy : j / k < k := Nat.div_lt_of_lt_mul (by rw [hKH.out]; exact hjK)
      obtain ⟨cx, ecx⟩ : ∃ cx, j % k = cx := ⟨_, rfl⟩
      obtain ⟨cy, ecy⟩ : ∃ cy, j / k = cy := ⟨_, rfl⟩
      simp only [ecx] at hat hcx
      simp only [ecy] at hat hcy
      have hmod : (j : Int) % (k : Int) = (cx : Int) := by rw [← ecx]; rfl
      have hdiv : (j : Int) / (k : Int) = (cy : Int) := by rw [← ecy]; rfl
      have htm : (j : Int).tmod (k : Int) = (cx : Int) := by rw [← ecx]; rfl
      have htd : (j : Int).tdiv (k : Int) = (cy : Int) := by rw [← ecy]; rfl
      have hk00 : ¬ k = 0 := by omega
      have hk0 : ¬ (k : Int) = 0 := by omega
      have hwx : IntKind.i64.wrap (cx : Int) = (cx : Int) := wrap_in (by omega) (by omega)
      have hwy : IntKind.i64.wrap (cy : Int) = (cy : Int) := wrap_in (by omega) (by omega)
      have hcx2 : 0 ≤ (cx : Int) ∧ (cx : Int) ≤ 4 := by omega
      have hcy2 : 0 ≤ (cy : Int) ∧ (cy : Int) ≤ 4 := by omega
      obtain ⟨fv, hfv⟩ : ∃ fv, F j = fv := ⟨_, rfl⟩
      have hfr := hrg.out j
      rw [hfv] at hat hfr
      have hatH := Lib.hid hat
      have hfvH := Lib.hid hfv
      clear hat ecx ecy hcx hcy hfv hjKi
      cases hb : okC F K j
      · have hno := okC_no hb
        have hres := Lib.hid (hbad.out j hjK hb)
        rw [hfvH.out] at hno
        clear hb
        rcases hno with h1 | ⟨h1, h2⟩ | ⟨h1, h2, h3, h4⟩
        · go_wp2
          refine wp_region_ord [(0, .q), (1, .q), (2, .q), (3, .q), (4, .q), (5, .q), (6, .q), (7, .q), (8, .q), (9, .g), (10, .g), (11, .q)] (by kernel_rfl) (by kernel_rfl) ?_
          simp only [pick, List.filterMap_cons, List.filterMap_nil, List.getElem?_toArray, List.getElem?_cons_zero, List.getElem?_cons_succ, Option.map_some]
          repeat (first
            | ((with_reducible refine wpD_p (fun K hK => ?_)); go_simp; refine hK _ ?_; clear hK K)
            | ((with_reducible refine wpD_q (fun K hK => ?_)); go_simp; (first | refine hK _ ?_ | (go_bits; refine hK _ ?_) | (go_bits; go_simp; refine hK _ ?_)); clear hK K)
            | ((with_reducible refine wpD_g (fun K hK => ?_)); go_simp; refine hK _ _ ?_; clear hK K)
            | ((with_reducible refine wpD_g (fun K hK => ?_)); go_simp; refine ⟨Grew.of_alloc _, hK _ _ ?_⟩; clear hK K)
            | ((with_reducible refine wpD_g (fun K hK => ?_)); go_simp; go_at_call 70; refine (l26Cell_any (r := (k : Int) * x + (cx : Int)) (s := (k : Int) * y + (cy : Int)) hx hy hkI hcx2 hcy2 (by rw [Int.mul_comm]) (by rw [Int.mul_comm])).mono ?_; rintro e w2 ⟨rfl, hb2⟩; refine ⟨_, rfl, hb2, hK _ _ ?_⟩; clear hK K; obtain ⟨chb2, fhb2, shb2, thb2⟩ := bcell hb2; (try have bhb20 := shb2 (w.heap.size) (by go_simp)))
            | ((with_reducible refine wpD_g (fun K hK => ?_)); go_simp; go_at_call 69; refine (l03At_any p [] noTiles xs _ _ fv _ (hH.out.below (by exact bel_)) hV.out hatH.out).mono ?_; rintro e w3 ⟨rfl, hb3⟩; refine ⟨_, rfl, hb3, hK _ _ ?_⟩; clear hK K; obtain ⟨chb3, fhb3, shb3, thb3⟩ := bcell hb3; (try have bhb30 := shb3 (w.heap.size) (by go_simp))))
          with_reducible refine wpD_nil ?_
          have hb3H := Lib.hid (show Below w.heap.size w w3 by exact bel_)
          have hb3R := Lib.hid (show Below wr.heap.size wr w3 by exact bel_)
          go_wp2
          go_ret
          exact ⟨ret_int hres.out.symm, hb3H.out⟩
        · have hne : (fv % (K : Int) != (j : Int)) = true := by simpa using h2
          go_wp2
          refine wp_region_ord [(0, .q), (1, .q), (2, .q), (3, .q), (4, .q), (5, .q), (6, .q), (7, .q), (8, .q), (9, .g), (10, .g), (11, .q)] (by kernel_rfl) (by kernel_rfl) ?_
          simp only [pick, List.filterMap_cons, List.filterMap_nil, List.getElem?_toArray, List.getElem?_cons_zero, List.getElem?_cons_succ, Option.map_some]
          repeat (first
            | ((with_reducible refine wpD_p (fun K hK => ?_)); go_simp; refine hK _ ?_; clear hK K)
            | ((with_reducible refine wpD_q (fun K hK => ?_)); go_simp; (first | refine hK _ ?_ | (go_bits; refine hK _ ?_) | (go_bits; go_simp; refine hK _ ?_)); clear hK K)
            | ((with_reducible refine wpD_g (fun K hK => ?_)); go_simp; refine hK _ _ ?_; clear hK K)
            | ((with_reducible refine wpD_g (fun K hK => ?_)); go_simp; refine ⟨Grew.of_alloc _, hK _ _ ?_⟩; clear hK K)
            | ((with_reducible refine wpD_g (fun K hK => ?_)); go_simp; go_at_call 70; refine (l26Cell_any (r := (k : Int) * x + (cx : Int)) (s := (k : Int) * y + (cy : Int)) hx hy hkI hcx2 hcy2 (by rw [Int.mul_comm]) (by rw [Int.mul_comm])).mono ?_; rintro e w2 ⟨rfl, hb2⟩; refine ⟨_, rfl, hb2, hK _ _ ?_⟩; clear hK K; obtain ⟨chb2, fhb2, shb2, thb2⟩ := bcell hb2; (try have bhb20 := shb2 (w.heap.size) (by go_simp)))
            | ((with_reducible refine wpD_g (fun K hK => ?_)); go_simp; go_at_call 69; refine (l03At_any p [] noTiles xs _ _ fv _ (hH.out.below (by exact bel_)) hV.out hatH.out).mono ?_; rintro e w3 ⟨rfl, hb3⟩; refine ⟨_, rfl, hb3, hK _ _ ?_⟩; clear hK K; obtain ⟨chb3, fhb3, shb3, thb3⟩ := bcell hb3; (try have bhb30 := shb3 (w.heap.size) (by go_simp))))
          with_reducible refine wpD_nil ?_
          have hb3H := Lib.hid (show Below w.heap.size w w3 by exact bel_)
          have hb3R := Lib.hid (show Below wr.heap.size wr w3 by exact bel_)
          go_wp2
          go_ret
          exact ⟨ret_int hres.out.symm, hb3H.out⟩
        · have htv2 : tv = F (j - 1) / (K : Int) := by rw [htv.out, if_neg (by omega)]
          rw [← htv2] at h4
          obtain ⟨q, hq⟩ : ∃ q, fv / (K : Int) = q := ⟨_, rfl⟩
          rw [hq] at h4
          have hne : (q != tv) = true := by simpa using h4
          have hj0 : (0 : Int) < (j : Int) := by omega
          clear htv2
          go_wp2
          refine wp_region_ord [(0, .q), (1, .q), (2, .q), (3, .q), (4, .q), (5, .q), (6, .q), (7, .q), (8, .q), (9, .g), (10, .g), (11, .q)] (by kernel_rfl) (by kernel_rfl) ?_
          simp only [pick, List.filterMap_cons, List.filterMap_nil, List.getElem?_toArray, List.getElem?_cons_zero, List.getElem?_cons_succ, Option.map_some]
          repeat (first
            | ((with_reducible refine wpD_p (fun K hK => ?_)); go_simp; refine hK _ ?_; clear hK K)
            | ((with_reducible refine wpD_q (fun K hK => ?_)); go_simp; (first | refine hK _ ?_ | (go_bits; refine hK _ ?_) | (go_bits; go_simp; refine hK _ ?_)); clear hK K)
            | ((with_reducible refine wpD_g (fun K hK => ?_)); go_simp; refine hK _ _ ?_; clear hK K)
            | ((with_reducible refine wpD_g (fun K hK => ?_)); go_simp; refine ⟨Grew.of_alloc _, hK _ _ ?_⟩; clear hK K)
            | ((with_reducible refine wpD_g (fun K hK => ?_)); go_simp; go_at_call 70; refine (l26Cell_any (r := (k : Int) * x + (cx : Int)) (s := (k : Int) * y + (cy : Int)) hx hy hkI hcx2 hcy2 (by rw [Int.mul_comm]) (by rw [Int.mul_comm])).mono ?_; rintro e w2 ⟨rfl, hb2⟩; refine ⟨_, rfl, hb2, hK _ _ ?_⟩; clear hK K; obtain ⟨chb2, fhb2, shb2, thb2⟩ := bcell hb2; (try have bhb20 := shb2 (w.heap.size) (by go_simp)))
            | ((with_reducible refine wpD_g (fun K hK => ?_)); go_simp; go_at_call 69; refine (l03At_any p [] noTiles xs _ _ fv _ (hH.out.below (by exact bel_)) hV.out hatH.out).mono ?_; rintro e w3 ⟨rfl, hb3⟩; refine ⟨_, rfl, hb3, hK _ _ ?_⟩; clear hK K; obtain ⟨chb3, fhb3, shb3, thb3⟩ := bcell hb3; (try have bhb30 := shb3 (w.heap.size) (by go_simp))))
          with_reducible refine wpD_nil ?_
          have hb3H := Lib.hid (show Below w.heap.size w w3 by exact bel_)
          have hb3R := Lib.hid (show Below wr.heap.size wr w3 by exact bel_)
          go_wp2
          go_ret
          exact ⟨ret_int hres.out.symm, hb3H.out⟩
      · obtain ⟨h1, h2, h3⟩ := okC_yes hb
        rw [hfvH.out] at h1 h2 h3
        obtain ⟨q, hq⟩ : ∃ q, fv / (K : Int) = q := ⟨_, rfl⟩
        have hqr : 0 ≤ q ∧ q ≤ 159 := by
          have := hsq.out
          rcases this with e | e | e | e <;> rw [e] at hq <;> simp only [Int.cast_ofNat_Int] at hq <;> omega
        have hok2 := Lib.hid (show ∀ i, i < j + 1 → okC F K i = true from fun i hi => by
          rcases Nat.lt_succ_iff_lt_or_eq.1 hi with h | rfl
          · exact hok.out i h
          · exact hb)
        have htv2 := Lib.hid (show q = if j + 1 = 0 then -1 else F (j + 1 - 1) / (K : Int) by rw [if_neg (by omega), Nat.add_sub_cancel, hfvH.out, hq])
        clear hb
        rcases Nat.eq_zero_or_pos j with h0 | h0
        · have hj0 : ¬ (0 : Int) < (j : Int) := by omega
          clear h3 h0
          go_wp2
          refine wp_region_ord [(0, .q), (1, .q), (2, .q), (3, .q), (4, .q), (5, .q), (6, .q), (7, .q), (8, .q), (9, .g), (10, .g), (11, .q)] (by kernel_rfl) (by kernel_rfl) ?_
          simp only [pick, List.filterMap_cons, List.filterMap_nil, List.getElem?_toArray, List.getElem?_cons_zero, List.getElem?_cons_succ, Option.map_some]
          repeat (first
            | ((with_reducible refine wpD_p (fun K hK => ?_)); go_simp; refine hK _ ?_; clear hK K)
            | ((with_reducible refine wpD_q (fun K hK => ?_)); go_simp; (first | refine hK _ ?_ | (go_bits; refine hK _ ?_) | (go_bits; go_simp; refine hK _ ?_)); clear hK K)
            | ((with_reducible refine wpD_g (fun K hK => ?_)); go_simp; refine hK _ _ ?_; clear hK K)
            | ((with_reducible refine wpD_g (fun K hK => ?_)); go_simp; refine ⟨Grew.of_alloc _, hK _ _ ?_⟩; clear hK K)
            | ((with_reducible refine wpD_g (fun K hK => ?_)); go_simp; go_at_call 70; refine (l26Cell_any (r := (k : Int) * x + (cx : Int)) (s := (k : Int) * y + (cy : Int)) hx hy hkI hcx2 hcy2 (by rw [Int.mul_comm]) (by rw [Int.mul_comm])).mono ?_; rintro e w2 ⟨rfl, hb2⟩; refine ⟨_, rfl, hb2, hK _ _ ?_⟩; clear hK K; obtain ⟨chb2, fhb2, shb2, thb2⟩ := bcell hb2; (try have bhb20 := shb2 (w.heap.size) (by go_simp)))
            | ((with_reducible refine wpD_g (fun K hK => ?_)); go_simp; go_at_call 69; refine (l03At_any p [] noTiles xs _ _ fv _ (hH.out.below (by exact bel_)) hV.out hatH.out).mono ?_; rintro e w3 ⟨rfl, hb3⟩; refine ⟨_, rfl, hb3, hK _ _ ?_⟩; clear hK K; obtain ⟨chb3, fhb3, shb3, thb3⟩ := bcell hb3; (try have bhb30 := shb3 (w.heap.size) (by go_simp))))
          with_reducible refine wpD_nil ?_
          have hb3H := Lib.hid (show Below w.heap.size w w3 by exact bel_)
          have hb3R := Lib.hid (show Below wr.heap.size wr w3 by exact bel_)
          go_wp2
          go_roundg (K - (j + 1))
          case measure => omega
          case rel => exact ⟨j + 1, q, by omega, by go_num, by rw [hq], htv2, (by omega), hok2, hb3H, (hb3R.out.cell (p := ⟨w.heap.size, 0, none⟩) l0).trans y1, (hb3R.out.cell (p := ⟨w.heap.size, 1, none⟩) l0).trans y2, Nat.lt_of_lt_of_le l0 hb3R.out.size⟩
        · have h4 : q = tv := by
            rcases h3 with h | h
            · omega
            · rw [← hq, h, htv.out, if_neg (by omega)]
          have hj0 : (0 : Int) < (j : Int) := by omega
          clear h3
          subst h4
          go_wp2
          refine wp_region_ord [(0, .q), (1, .q), (2, .q), (3, .q), (4, .q), (5, .q), (6, .q), (7, .q), (8, .q), (9, .g), (10, .g), (11, .q)] (by kernel_rfl) (by kernel_rfl) ?_
          simp only [pick, List.filterMap_cons, List.filterMap_nil, List.getElem?_toArray, List.getElem?_cons_zero, List.getElem?_cons_succ, Option.map_some]
          repeat (first
            | ((with_reducible refine wpD_p (fun K hK => ?_)); go_simp; refine hK _ ?_; clear hK K)
            | ((with_reducible refine wpD_q (fun K hK => ?_)); go_simp; (first | refine hK _ ?_ | (go_bits; refine hK _ ?_) | (go_bits; go_simp; refine hK _ ?_)); clear hK K)
            | ((with_reducible refine wpD_g (fun K hK => ?_)); go_simp; refine hK _ _ ?_; clear hK K)
            | ((with_reducible refine wpD_g (fun K hK => ?_)); go_simp; refine ⟨Grew.of_alloc _, hK _ _ ?_⟩; clear hK K)
            | ((with_reducible refine wpD_g (fun K hK => ?_)); go_simp; go_at_call 70; refine (l26Cell_any (r := (k : Int) * x + (cx : Int)) (s := (k : Int) * y + (cy : Int)) hx hy hkI hcx2 hcy2 (by rw [Int.mul_comm]) (by rw [Int.mul_comm])).mono ?_; rintro e w2 ⟨rfl, hb2⟩; refine ⟨_, rfl, hb2, hK _ _ ?_⟩; clear hK K; obtain ⟨chb2, fhb2, shb2, thb2⟩ := bcell hb2; (try have bhb20 := shb2 (w.heap.size) (by go_simp)))
            | ((with_reducible refine wpD_g (fun K hK => ?_)); go_simp; go_at_call 69; refine (l03At_any p [] noTiles xs _ _ fv _ (hH.out.below (by exact bel_)) hV.out hatH.out).mono ?_; rintro e w3 ⟨rfl, hb3⟩; refine ⟨_, rfl, hb3, hK _ _ ?_⟩; clear hK K; obtain ⟨chb3, fhb3, shb3, thb3⟩ := bcell hb3; (try have bhb30 := shb3 (w.heap.size) (by go_simp))))
          with_reducible refine wpD_nil ?_
          have hb3H := Lib.hid (show Below w.heap.size w w3 by exact bel_)
          have hb3R := Lib.hid (show Below wr.heap.size wr w3 by exact bel_)
          go_wp2
          go_roundg (K - (j + 1))
          case measure => omega
          case rel => exact ⟨j + 1, q, by omega, by go_num, by rw [hq], htv2, (by omega), hok2, hb3H, (hb3R.out.cell (p := ⟨w.heap.size, 0, none⟩) l0).trans y1, (hb3R.out.cell (p := ⟨w.heap.size, 1, none⟩) l0).trans y2, Nat.lt_of_lt_of_le l0 hb3R.out.size⟩
    · obtain rfl : j = K := by omega
      have hg := hgood.out hok.out
      have htv2 := htv.out
      rw [if_neg (by omega)] at htv2
      rw [← htv2] at hg
      have hgH := Lib.hid hg
      clear hg htv2 hjKi
      go_wp2
      go_ret
      exact ⟨ret_int hgH.out.symm, hbw.out⟩
end Go.Proofs.Ytkfjojpohcieeaa
/- Walks: the blocks of an assembly, the reference. -/

namespace Go.Proofs.Ytkfjojpohcieeaa
open Go.RowKit Go.Shelf
attribute [local go_sem] BelowBy.cell BelowBy.cell_drew stillUpon givesUpon

set_option maxRecDepth 100000 in
set_option maxHeartbeats 4000000 in
theorem l26Blocks_any {p op : Nat} {xs : List Pl} {k : Int} {w : World} (h : AsmAt w p op xs) (hf : hasFormB xs = true) (hk : 1 ≤ k ∧ k ≤ 4) :
    Calls Try.prog 40 #[.pointer (some ⟨p, op, none⟩), .int .i64 k] w (OwnPts w (blocksP k xs)) := by
  obtain ⟨hlt, ⟨A, n, c, h1, h2⟩⟩ := id h
  have hV := form_valid hf
  have hpt := Lib.hid hV.pt
  have hn : n ≤ 500 := by have := form_len hf; rw [h2.len] at this; exact this
  have hH := Lib.hid h2
  have hl := Lib.hid h2.len
  have h1H := Lib.hid h1
  clear h h2 hf hV h1
  go_enter Try.func40, Try.ntmps40
  go_wp2
  go_loopg [6, 5] n (fun g i v wr => ∃ (j : Nat), j + g = n ∧ i = .int .i64 (j : Int) ∧ Hid (wr.ownsRow w.heap.size 52 2 v (putAll [] ((xs.map (blkP k)).take j)).length (ptCells (putAll [] ((xs.map (blkP k)).take j)))) ∧ Hid (Below w.heap.size w wr))
  case atStart => exact ⟨0, by omega, rfl, Lib.hid (by have := World.ownsRow_made (base := w.heap.size) (e := 52) (size := 2) w #[] 0 (by simp) (by decide) rfl; simpa [putAll, ptCells] using this), Lib.hid (bl_al (bl_refl _) _)⟩
  case round =>
    obtain ⟨j, hj, rfl, hO, hbw⟩ := hrel
    have hszl := hbw.out.size
    have c0 := (hbw.out.cell (p := ⟨p, op, none⟩) hlt).trans h1H.out
    have hpw : p < wr.heap.size := by omega
    by_cases hkn : j < n
    · have hAw := hH.out.below RPl.stable hbw.out
      obtain ⟨bb, ob, rfl, hbb, hbc⟩ := hAw.ptr (by omega)
      obtain ⟨e, he⟩ := hAw.get hkn
      obtain ⟨e0, e1, e2⟩ := hbc j e he
      have htk := Lib.hid (show (xs.map (blkP k)).take (j + 1) = (xs.map (blkP k)).take j ++ [⟨e.x / k, e.y / k⟩] by rw [List.take_add_one, List.getElem?_map, he]; rfl)
      have hp := hpt.out j e he
      have hpx : -1000 ≤ e.x ∧ e.x ≤ 1000 := by omega
      have hpy : -1000 ≤ e.y ∧ e.y ≤ 1000 := by omega
      clear hbc he hAw hp
      go_wp2_with fail
      refine (l26Block_any (r := e.x / k) (s := e.y / k) hpx hpy hk rfl rfl).mono ?_
      rintro e' w2 ⟨⟨u, v2, rfl⟩, hb2⟩
      have hb2H := Lib.hid (show Below wr.heap.size wr w2 by exact bel_)
      have hs2 : wr.heap.size ≤ w2.heap.size := hb2H.out.size
      clear hb2
      have hlen := putAll_len ((xs.map (blkP k)).take j) []
      have hlen2 : ((xs.map (blkP k)).take j).length ≤ 500 := by rw [List.length_take]; omega
      have hlen3 : (putAll [] ((xs.map (blkP k)).take j)).length ≤ 500 := by simp only [List.length_nil] at hlen; omega
      have hnx := Lib.hid (show putAll [] ((xs.map (blkP k)).take (j + 1)) = putP (putAll [] ((xs.map (blkP k)).take j)) (e.x / k) (e.y / k) by rw [htk.out, putAll_snoc])
      obtain ⟨r, hr⟩ : ∃ r, e.x / k = r := ⟨_, rfl⟩
      obtain ⟨s, hs⟩ : ∃ s, e.y / k = s := ⟨_, rfl⟩
      rw [hr, hs] at hnx ⊢
      clear hr hs hlen hlen2 htk
      obtain ⟨L, hL⟩ : ∃ L, putAll [] ((xs.map (blkP k)).take j) = L := ⟨_, rfl⟩
      rw [hL] at hO hlen3 hnx
      clear hL
      go_wp2_with fail
      refine (l08PutPoint_any (base := w.heap.size) (L := L) (x := r) (y := s) (ownsRow_below hO.out (by have hb2 := hb2H.out; exact bel_)) (by simp; omega) (by omega)).mono ?_
      rintro e' w3 ⟨v3, rfl, hown3, hb3⟩
      have hown3H := Lib.hid hown3
      have hb3H := Lib.hid hb3
      clear hown3 hb3
      go_wp2
      go_roundg (n - (j + 1))
      case measure => omega
      case rel =>
        refine ⟨j + 1, by omega, by go_num, Lib.hid ?_, Lib.hid ?_⟩
        · rw [hnx.out]; exact hown3H.out
        · exact (hbw.out.trans (show Below w.heap.size wr _ from (hb2H.out.mono hszl).trans (bl_al (bl_al (bl_refl _) _) _ |>.mono (by omega)))).trans hb3H.out
    · obtain rfl : j = n := by omega
      have ht := Lib.hid (show (xs.map (blkP k)).take j = xs.map (blkP k) from List.take_of_length_le (by rw [List.length_map, hl.out]; exact Nat.le_refl _))
      go_wp2
      go_ret
      have hO2 := hO.out
      rw [ht.out] at hO2
      exact ⟨_, rfl, hO2, hbw.out⟩
end Go.Proofs.Ytkfjojpohcieeaa
/- Walks: PartialBlocks of the reference. -/



namespace Go.Proofs.Ytkfjojpohcieeaa
open Go.RowKit Go.Shelf
attribute [local go_sem] BelowBy.cell BelowBy.cell_drew stillUpon givesUpon

theorem Gb.app {g : Nat} {w W W' : World} {row : Option Nat} (h : Gb g w W) (hg : W.grownBy W' row) (hr : ∀ g', row = some g' → g' = g ∨ w.heap.size ≤ g') : Gb g w W' :=
  ⟨hg.os.trans h.os, hg.tape.trans h.tape, hg.output.trans h.output, Nat.le_trans h.size hg.size, fun k hk hne => (hg.block k (Nat.lt_of_lt_of_le hk h.size) (fun e => by
    rcases hr k e.symm with rfl | h2
    · exact hne rfl
    · omega)).trans (h.block k hk hne)⟩
theorem RdSl.gbT {g : Nat} {w W : World} {A : Option Addr} {n : Nat} {ps : List Pt} (h : RdSl 2 RPt w A n ps) (hA : 0 < n → ∀ b o, A = some ⟨b, o, none⟩ → b ≠ g) (hb : Gb g w W) : RdSl 2 RPt W A n ps :=
  ⟨h.len, fun hn => by
    obtain ⟨b, o, e, hlt, hc⟩ := h.cells hn
    exact ⟨b, o, e, Nat.lt_of_lt_of_le hlt hb.size, fun k hk => ⟨(hb.cell (o := o + k * 2) hlt (hA hn b o e)).trans (hc k hk).1, (hb.cell (o := o + k * 2 + 1) hlt (hA hn b o e)).trans (hc k hk).2⟩⟩⟩
theorem l26Asked_at {p op : Nat} {xs : List Pl} {k r : Int} {w : World} (h : AsmAt w p op xs) (hn : xs.length ≤ 1073741824) (hr : blkCode xs k = r) :
    Calls Try.prog 32 #[.pointer (some ⟨p, op, none⟩), .int .i64 k] w fun e w' => e = .returned (.int .i64 r) ∧ Below w.heap.size w w' := by
  subst hr
  have hH := Lib.hid h
  clear h
  cases hf : hasFormB xs
  · have hR := Lib.hid (show blkCode xs k = 1 by unfold blkCode; rw [hf]; rfl)
    have hfH := Lib.hid hf
    clear hf
    go_enter Try.func32, Try.ntmps32
    go_wp2_with (go_at_call 61; refine (l03Form_any _ xs _ hH.out hn).mono ?_; rw [hfH.out]; rintro e w1 ⟨rfl, hb1⟩; have hb1H := Lib.hid hb1; clear hb1)
    go_ret
    exact ⟨ret_int hR.out.symm, hb1H.out⟩
  · cases hi : inB k 1 4
    · have hR := Lib.hid (show blkCode xs k = 2 by unfold blkCode; rw [hf, hi]; rfl)
      have hfH := Lib.hid hf
      have hiH := Lib.hid hi
      clear hf hi
      go_enter Try.func32, Try.ntmps32
      go_wp2_with (first
        | (go_at_call 61; refine (l03Form_any _ xs _ hH.out hn).mono ?_; rw [hfH.out]; rintro e w1 ⟨rfl, hb1⟩; have hb1H := Lib.hid hb1; clear hb1)
        | (go_at_call 62; refine (l00In_at hiH.out).mono ?_; rintro e _ ⟨rfl, rfl⟩))
      go_ret
      exact ⟨ret_int hR.out.symm, hb1H.out⟩
    · have hR := Lib.hid (show blkCode xs k = 0 by unfold blkCode; rw [hf, hi]; rfl)
      have hfH := Lib.hid hf
      have hiH := Lib.hid hi
      clear hf hi
      go_enter Try.func32, Try.ntmps32
      go_wp2_with (first
        | (go_at_call 61; refine (l03Form_any _ xs _ hH.out hn).mono ?_; rw [hfH.out]; rintro e w1 ⟨rfl, hb1⟩; have hb1H := Lib.hid hb1; clear hb1)
        | (go_at_call 62; refine (l00In_at hiH.out).mono ?_; rintro e _ ⟨rfl, rfl⟩))
      go_ret
      exact ⟨ret_int hR.out.symm, hb1H.out⟩
set_option maxRecDepth 100000 in
set_option maxHeartbeats 4000000 in
theorem sPartialBlocks_any (A : Option Addr) (n c : Nat) (xs : List Pl) (k : Int) (w : World) (h : RdSl 3 RPl w A n xs) (hn : n ≤ 1073741824) :
    Calls Try.prog 22 #[.agg #[.slice A n c], .int .i64 k] w (PtsC w (parR xs k)) := by
  obtain ⟨i0, hi, hz0, hz1, hz2⟩ := info_parts infoPtQ
  have hH := Lib.hid h
  have hq : xs.length ≤ 1073741824 := by rw [h.len]; exact hn
  have hA0 : AsmAt (w.alloc (.cells #[.slice A n c] 40)) w.heap.size 0 xs := ⟨by simp, ⟨A, n, c, by go_simp, h.below RPl.stable (bl_al (bl_refl _) _)⟩⟩
  have hA0H := Lib.hid hA0
  by_cases hc : blkCode xs k = 0
  · have hR := Lib.hid (show parR xs k = (parB xs k.toNat, 0) by unfold parR; rw [if_pos hc])
    obtain ⟨hf, hk1, hk2⟩ := blkCode_zero hc
    obtain ⟨K, rfl⟩ : ∃ K : Nat, k = (K : Int) := ⟨k.toNat, by omega⟩
    have hcH := Lib.hid hc
    have hfH := Lib.hid hf
    have hbl := blocksP_len hf (K : Int)
    have hrg := Lib.hid (fun (b : Pt) hb => blocksP_rng hf (k := (K : Int)) ⟨hk1, hk2⟩ (b := b) hb)
    have hpB := Lib.hid (show parB xs (K : Int).toNat = keepG (delC xs K) (blocksP (K : Int) xs) (blocksP (K : Int) xs).length by
      unfold keepG; rw [List.take_length]; rfl)
    have hk' : 1 ≤ K ∧ K ≤ 4 := by omega
    have hltH := Lib.hid (fun (hn0 : 0 < n) => (h.cells hn0))
    clear h hc hf hA0
    go_enter Try.func22, Try.ntmps22
    go_wp2_with fail
    refine (l26Asked_at hA0H.out hq hcH.out).mono ?_
    rintro e w1 ⟨rfl, hb1⟩
    have hA1 := Lib.hid (hA0H.out.below hb1)
    have y0 : w1.cell? ⟨w.heap.size, 0, none⟩ = some (.slice A n c) := (hb1.cell (p := ⟨w.heap.size, 0, none⟩) (by simp; try omega)).trans (by go_simp)
    have y0H := Lib.hid y0
    clear y0
    have hs1 : w.heap.size + 1 ≤ w1.heap.size := by have := hb1.size; simp at this; omega
    have hb1H := Lib.hid (show Below w.heap.size w w1 by exact bel_)
    clear hb1
    go_wp2_with fail
    refine (l26Blocks_any (hA1.out.below (bl_al (bl_refl _) _)) hfH.out ⟨hk1, hk2⟩).mono ?_
    rintro e w2 ⟨v2, rfl, hown, hb2⟩
    obtain ⟨B, hB⟩ : ∃ B, blocksP (K : Int) xs = B := ⟨_, rfl⟩
    rw [hB] at hown hbl hrg hpB
    have hR2 := hR.out
    rw [hpB.out] at hR2
    have hR2H := Lib.hid hR2
    obtain ⟨m, hm⟩ : ∃ m, B.length = m := ⟨_, rfl⟩
    rw [hm] at hown hbl hR2H
    have hmH := Lib.hid hm
    obtain ⟨A2, c2, rfl⟩ := ownsRow_form hown
    have hs2 : w1.heap.size + 1 ≤ w2.heap.size := by have := hb2.size; simp at this; omega
    have hrdB := Lib.hid (rdPts hown hm.symm)
    have hneB := Lib.hid (show 0 < m → ∀ b o, A2 = some ⟨b, o, none⟩ → b ≠ w1.heap.size from fun _ b o e => by
      subst e
      have := (hown.lt b rfl).1
      simp at this
      omega)
    have z0 := Lib.hid ((hb2.cell (p := ⟨w.heap.size, 0, none⟩) (by simp; omega)).trans ((World.cell?_alloc_lt _ _ _ (show w.heap.size < w1.heap.size by omega)).trans y0H.out))
    have hA2 := Lib.hid ((hA1.out.below (bl_al (bl_refl _) _)).below hb2)
    have hxs2 := Lib.hid (hH.out.below RPl.stable ((hb1H.out.trans ((bl_al (bl_refl _) _ : Below w1.heap.size w1 (w1.alloc (.cells #[] 52))).mono (by omega))).trans (hb2.mono (by simp; omega))))
    have hb12H := Lib.hid (show Below w1.heap.size w1 w2 from (bl_al (bl_refl _) _).trans (hb2.mono (by simp)))
    have hinit := Lib.hid (ownsRow_below (World.ownsRow_made (base := w1.heap.size) (e := 52) (size := 2) w1 #[] 0 (by simp) (by decide) rfl) hb2)
    clear hb2 hown hm hR2 hR hB hpB
    go_wp2
    go_loopg [9, 7] m (fun g i v wr => ∃ (j : Nat), j + g = m ∧ i = .int .i64 (j : Int) ∧ Hid (wr.ownsRow w1.heap.size 52 2 v (keepG (delC xs K) B j).length (ptCells (keepG (delC xs K) B j))) ∧ Hid (∀ g, v.ownBlock = some g → g = w1.heap.size ∨ w2.heap.size ≤ g) ∧ Hid (Gb w1.heap.size w2 wr))
    case atStart => exact ⟨0, by omega, rfl, Lib.hid (by have := hinit.out; simpa [keepG, ptCells] using this), Lib.hid (fun g e => by left; injection e with e; exact e.symm), Lib.hid (Gb.refl _ _)⟩
    case round =>
      obtain ⟨j, hj, rfl, hO, hob, hgb⟩ := hrel
      have hszl := hgb.out.size
      obtain ⟨A1, c1, rfl⟩ := ownsRow_form hO.out
      have hkl := keepG_len (delC xs K) B j
      by_cases hkn : j < m
      · have hrw := hrdB.out.gbT hneB.out hgb.out
        obtain ⟨bb, ob, rfl, hbb, hbc⟩ := hrw.ptr (by omega)
        obtain ⟨e, he⟩ := hrw.get hkn
        obtain ⟨e0, e1⟩ := hbc j e he
        have hrge := hrg.out e (List.mem_of_getElem? he)
        have hAw : AsmAt wr w.heap.size 0 xs := by
          refine ⟨by omega, ⟨A, n, c, (hgb.out.cell (o := 0) (show w.heap.size < w2.heap.size by omega) (by omega)).trans z0.out, hxs2.out.gbP (fun hn0 b o he => ?_) hgb.out⟩⟩
          obtain ⟨b', o', e', hlt, _⟩ := hltH.out hn0
          rw [he] at e'
          injection e' with e'
          injection e' with e1 e2
          omega
        have hAwH := Lib.hid hAw
        obtain ⟨r, hr⟩ : ∃ r, compI xs K ⟨e.x, e.y⟩ = r := ⟨_, rfl⟩
        have hrH := Lib.hid hr
        clear hbc hrw hAw hr
        by_cases hneg : r < 0
        · have hd : delC xs K e = false := by unfold delC; rw [decide_eq_false_iff_not]; have := hrH.out; show ¬ 0 ≤ compI xs K ⟨e.x, e.y⟩; omega
          have hnx := Lib.hid (keepG_succ_yes he hd)
          clear he hd
          obtain ⟨L, hL⟩ : ∃ L, keepG (delC xs K) B j = L := ⟨_, rfl⟩
          rw [hL] at hO hkl hnx hob ⊢
          obtain ⟨q, hq2⟩ : ∃ q, L.length = q := ⟨_, rfl⟩
          rw [hq2] at hO hkl hob ⊢
          have hqH := Lib.hid hq2
          clear hL hq2
          have hbB := Lib.hid hbb
          have hobO := hob.out
          go_wp2_with (first
            | (go_at_call 41; refine (l26Complete_any hAwH.out hfH.out hk' hrge.1 hrge.2 hrH.out).mono ?_; rintro e' w3 ⟨rfl, hb3⟩; have f0 := (hb3.cell (p := ⟨bb, ob + j * 2, none⟩) hbb).trans e0; have f1 := (hb3.cell (p := ⟨bb, ob + j * 2 + 1, none⟩) hbb).trans e1; have hb3l := Nat.lt_of_lt_of_le hbb hb3.size; have hs3 := hb3.size; have hb3H := Lib.hid hb3; clear hb3)
            | (at_builtin; refine wpList_append_own_at _ rfl _ _ 27 rfl w1.heap.size 52 i0 (.agg #[.int .i64 0, .int .i64 0]) 2 16 Try.underlying27 hi hz0 hz1 hz2 rfl (by decide) (.slice A1 q c1) q (ptCells L) rfl ((ownsRow_below hO.out hb3H.out).alloc _) ⟨w3.heap.size, 0, none⟩ 1 1 [.int .i64 e.x, .int .i64 e.y] rfl rfl (cell_pt2 _ _ _ _) (fun x hx => by simp at hx; rcases hx with rfl | rfl <;> rfl) (by unfold maxLen; omega) (by omega) (by simp; omega) ?_; intro v5 w5 hown5 hgrow5 _ hat5; have hown5H := Lib.hid hown5; have hgrow5H := Lib.hid hgrow5; have hat5H := Lib.hid hat5; clear hown5 hgrow5 hat5))
          have hG3 : Gb w1.heap.size w2 (w3.alloc (.cells #[.int .i64 e.x, .int .i64 e.y] 52)) := (hgb.out.below hb3H.out).below (bl_al (bl_refl _) _)
          have hG5 := Lib.hid (hG3.app hgrow5H.out hobO)
          have hob5 := Lib.hid (show ∀ g, v5.ownBlock = some g → g = w1.heap.size ∨ w2.heap.size ≤ g from fun g hg => by
            rcases hat5H.out with h | h
            · exact hobO g (h.symm.trans hg)
            · rw [h] at hg
              injection hg with hg
              right
              have := hG3.size
              omega)
          clear hG3 hobO
          go_roundg (m - (j + 1))
          case measure => omega
          case rel => exact ⟨j + 1, by omega, by go_num, Lib.hid (by rw [hnx.out, ptCells_snoc, List.length_append, hqH.out]; exact hown5H.out), hob5, hG5⟩
        · have hd : delC xs K e = true := by unfold delC; rw [decide_eq_true_eq]; have := hrH.out; show 0 ≤ compI xs K ⟨e.x, e.y⟩; omega
          have hnx := Lib.hid (keepG_succ_no he hd)
          clear he hd
          go_wp2_with (go_at_call 41; refine (l26Complete_any hAwH.out hfH.out hk' hrge.1 hrge.2 hrH.out).mono ?_; rintro e' w3 ⟨rfl, hb3⟩; have hb3H := Lib.hid hb3; clear hb3)
          go_roundg (m - (j + 1))
          case measure => omega
          case rel => exact ⟨j + 1, by omega, by go_num, Lib.hid (by rw [hnx.out]; exact ownsRow_below hO.out hb3H.out), hob, Lib.hid (hgb.out.below hb3H.out)⟩
      · obtain rfl : j = m := by omega
        go_wp2
        go_ret2
        rw [hR2H.out]
        exact ⟨_, _, rfl, ownsRow_baseQ hO.out (by omega), hb1H.out.trans ((hb12H.out.trans (hgb.out.toBelow (by omega) (by omega))).mono (by omega))⟩
  · have hR := Lib.hid (show parR xs k = ([], blkCode xs k) by unfold parR; rw [if_neg hc])
    obtain ⟨r, hr⟩ : ∃ r, blkCode xs k = r := ⟨_, rfl⟩
    rw [hr] at hR hc
    have hrH := Lib.hid hr
    have hb : (r != 0) = true := by simpa using hc
    clear h hr hA0
    go_enter Try.func22, Try.ntmps22
    go_wp2_with fail
    refine (l26Asked_at hA0H.out hq hrH.out).mono ?_
    rintro e w1 ⟨rfl, hb1⟩
    have hb1H := Lib.hid (show Below w.heap.size w w1 by exact bel_)
    clear hb1
    go_wp2
    go_ret2
    rw [hR.out]
    have hbs := hb1H.out.size
    exact ⟨_, _, rfl, by have := World.ownsRow_made (base := w.heap.size) (e := 52) (size := 2) w1 #[] 0 hbs (by decide) rfl; simpa [ptCells] using this, by have hb1 := hb1H.out; exact bel_⟩
end Go.Proofs.Ytkfjojpohcieeaa
/- Walks: DecodeBlocks of the program. -/


namespace Go.Proofs.Ytkfjojpohcieeaa
open Go.RowKit Go.Shelf
attribute [local go_sem] BelowBy.cell BelowBy.cell_drew stillUpon givesUpon

/-- the complete of the first j blocks -/
noncomputable def decN (xs : List Pl) (k : Nat) (B : List Pt) (j : Nat) : List Pl := ((B.take j).filter (delC xs k)).map fun b => ⟨b.x, b.y, compI xs k b⟩
noncomputable def decB (xs : List Pl) (k : Nat) : List Pl := decN xs k (blocksP k xs) (blocksP k xs).length
noncomputable def decR (xs : List Pl) (k : Int) : List Pl × Int := if blkCode xs k = 0 then (decB xs k.toNat, 0) else ([], blkCode xs k)
theorem decN_len (xs : List Pl) (k : Nat) (B : List Pt) (j : Nat) : (decN xs k B j).length ≤ j := by
  unfold decN; rw [List.length_map]
  exact Nat.le_trans (List.length_filter_le _ _) (List.length_take_le _ _)
theorem decN_yes {xs : List Pl} {k : Nat} {B : List Pt} {j : Nat} {e : Pt} {r : Int} (he : B[j]? = some e) (hr : compI xs k ⟨e.x, e.y⟩ = r) (h : 0 ≤ r) : decN xs k B (j + 1) = decN xs k B j ++ [⟨e.x, e.y, r⟩] := by
  have hd : delC xs k e = true := by unfold delC; rw [decide_eq_true_eq]; show 0 ≤ compI xs k ⟨e.x, e.y⟩; omega
  unfold decN
  rw [List.take_add_one, he, List.filter_append, List.map_append]
  simp only [Option.toList_some, List.filter_cons, hd, List.filter_nil, if_true, List.map_cons, List.map_nil]
  rw [← hr]
theorem decN_no {xs : List Pl} {k : Nat} {B : List Pt} {j : Nat} {e : Pt} {r : Int} (he : B[j]? = some e) (hr : compI xs k ⟨e.x, e.y⟩ = r) (h : r < 0) : decN xs k B (j + 1) = decN xs k B j := by
  have hd : delC xs k e = false := by unfold delC; rw [decide_eq_false_iff_not]; show ¬ 0 ≤ compI xs k ⟨e.x, e.y⟩; omega
  unfold decN
  rw [List.take_add_one, he, List.filter_append, List.map_append]
  simp [List.filter_cons, hd]
theorem decR_len (xs : List Pl) (k : Int) : (decR xs k).1.length ≤ 500 := by
  unfold decR
  by_cases h : blkCode xs k = 0
  · rw [if_pos h]
    exact Nat.le_trans (decN_len _ _ _ _) (blocksP_len (blkCode_zero h).1 _)
  · rw [if_neg h]; simp
def AgPl (w : World) (l : List Pl) (e : Ending) (w' : World) : Prop :=
  ∃ A c, e = .returned (.agg #[.slice A l.length c]) ∧ w'.ownsRow w.heap.size 81 3 (.slice A l.length c) l.length (plCells l) ∧ Below w.heap.size w w'
set_option maxRecDepth 100000 in
set_option maxHeartbeats 4000000 in
theorem decodeBlocks_any {A : Option Addr} {n c K : Nat} {xs : List Pl} {w : World} (h : RdSl 3 RPl w A n xs) (hf : hasFormB xs = true) (hk : 1 ≤ K ∧ K ≤ 4) :
    Calls Try.prog 36 #[.agg #[.slice A n c], .int .i64 (K : Int)] w (AgPl w (decB xs K)) := by
  obtain ⟨i2, hi2, hz02, hz12, hz22⟩ := info_parts infoPlQ
  have hH := Lib.hid h
  have hfH := Lib.hid hf
  have hkI : 1 ≤ (K : Int) ∧ (K : Int) ≤ 4 := by omega
  have hbl := blocksP_len hf (K : Int)
  have hrg := Lib.hid (fun (b : Pt) hb => blocksP_rng hf (k := (K : Int)) hkI (b := b) hb)
  have hltH := Lib.hid (fun (hn0 : 0 < n) => (h.cells hn0))
  have hR2 : decB xs K = decN xs K (blocksP (K : Int) xs) (blocksP (K : Int) xs).length := rfl
  clear h hf
  go_enter Try.func36, Try.ntmps36
  go_wp2_with fail
  refine (blocks_any (hH.out.below RPl.stable (by exact bel_)) hfH.out hkI).mono ?_
  rintro e w2 ⟨v2, rfl, hown, hb2⟩
  obtain ⟨B, hB⟩ : ∃ B, blocksP (K : Int) xs = B := ⟨_, rfl⟩
  rw [hB] at hown hbl hrg hR2
  obtain ⟨m, hm⟩ : ∃ m, B.length = m := ⟨_, rfl⟩
  rw [hm] at hown hbl hR2
  have hR2H := Lib.hid hR2
  obtain ⟨A2, c2, rfl⟩ := ownsRow_form hown
  have hs2 : w.heap.size + 3 ≤ w2.heap.size := by have := hb2.size; simp at this; omega
  have hrdB := Lib.hid (rdPts hown hm.symm)
  have hneB := Lib.hid (show 0 < m → ∀ b o, A2 = some ⟨b, o, none⟩ → b ≠ w.heap.size + 1 + 1 from fun _ b o e => by
    subst e
    have := (hown.lt b rfl).1
    simp at this
    omega)
  have hneA := Lib.hid (show 0 < n → ∀ b o, A = some ⟨b, o, none⟩ → b ≠ w.heap.size + 1 + 1 from fun hn0 b o he => by
    obtain ⟨b', o', e', hlt, _⟩ := hltH.out hn0
    rw [he] at e'
    injection e' with e'
    injection e' with e1 e2
    omega)
  have a0 : w2.cell? ⟨w.heap.size, 0, none⟩ = some (.slice A n c) := (hb2.cell (p := ⟨w.heap.size, 0, none⟩) (by simp; try omega)).trans (by go_simp)
  have r0 : w2.cell? ⟨w.heap.size + 1, 0, none⟩ = some (.slice none 0 0) := (hb2.cell (p := ⟨w.heap.size + 1, 0, none⟩) (by simp; try omega)).trans (by go_simp)
  have rf : w2.frozen? ⟨w.heap.size + 1, 0, none⟩ = false := (hb2.frozen (p := ⟨w.heap.size + 1, 0, none⟩) (by simp; try omega)).trans (by go_simp)
  have d0 : w2.cell? ⟨w.heap.size + 1 + 1, 0, none⟩ = some (.slice none 0 0) := (hb2.cell (p := ⟨w.heap.size + 1 + 1, 0, none⟩) (by simp; try omega)).trans (by go_simp)
  have df : w2.frozen? ⟨w.heap.size + 1 + 1, 0, none⟩ = false := (hb2.frozen (p := ⟨w.heap.size + 1 + 1, 0, none⟩) (by simp; try omega)).trans (by go_simp)
  have hbw2H := Lib.hid (show Below w.heap.size w w2 by exact bel_)
  have hxs2 := Lib.hid (hH.out.below RPl.stable hbw2H.out)
  have a0H := Lib.hid a0
  have r0H := Lib.hid r0
  have rfH := Lib.hid rf
  clear hb2 hown hm hR2 hB a0 r0 rf
  go_wp2
  go_loopg [13] m (fun g i wr => ∃ (j : Nat) (A3 : Option Addr) (c3 : Nat), j + g = m ∧ i = .int .i64 (j : Int) ∧ Hid (wr.ownsRow w2.heap.size 81 3 (.slice A3 (decN xs K B j).length c3) (decN xs K B j).length (plCells (decN xs K B j))) ∧ wr.cell? ⟨w.heap.size + 1 + 1, 0, none⟩ = some (.slice A3 (decN xs K B j).length c3) ∧ wr.frozen? ⟨w.heap.size + 1 + 1, 0, none⟩ = false ∧ Hid (Gb (w.heap.size + 1 + 1) w2 wr))
  case atStart => exact ⟨0, none, 0, by omega, rfl, Lib.hid (World.ownsRow_nil _ _ _ _), d0, df, Lib.hid (Gb.refl _ _)⟩
  case round =>
    clear d0 df
    obtain ⟨j, A3, c3, hj, rfl, hO, d0, df, hgb⟩ := hrel
    have hszl := hgb.out.size
    have a0 := (hgb.out.cell (o := 0) (show w.heap.size < w2.heap.size by omega) (by omega)).trans a0H.out
    have l0 : w.heap.size < wr.heap.size := by omega
    have l2 : w.heap.size + 1 + 1 < wr.heap.size := by omega
    have hkl := decN_len xs K B j
    by_cases hkn : j < m
    · have hrw := hrdB.out.gbT hneB.out hgb.out
      obtain ⟨bb, ob, rfl, hbb, hbc⟩ := hrw.ptr (by omega)
      obtain ⟨e, he⟩ := hrw.get hkn
      obtain ⟨e0, e1⟩ := hbc j e he
      have hrge := hrg.out e (List.mem_of_getElem? he)
      have hAw := Lib.hid (hxs2.out.gbP hneA.out hgb.out)
      obtain ⟨r, hr⟩ : ∃ r, compI xs K ⟨e.x, e.y⟩ = r := ⟨_, rfl⟩
      have hrH := Lib.hid hr
      clear hbc hrw
      by_cases hneg : r < 0
      · have hnx := Lib.hid (decN_no he hr hneg)
        have hneg' : ¬ 0 ≤ r := by omega
        clear he hr
        go_wp2_with (go_at_call 45; refine (complete_any (hAw.out.below RPl.stable (by exact bel_)) hfH.out hk hrge.1 hrge.2 hrH.out).mono ?_; rintro e' w3 ⟨rfl, hb3⟩; have hb3H := Lib.hid (show Below wr.heap.size wr w3 by exact bel_); clear hb3)
        go_roundg (m - (j + 1))
        case measure => omega
        case rel => exact ⟨j + 1, A3, c3, by omega, by go_num, Lib.hid (by rw [hnx.out]; exact ownsRow_below hO.out hb3H.out), by rw [hnx.out]; exact (hb3H.out.cell (p := ⟨w.heap.size + 1 + 1, 0, none⟩) l2).trans d0, (hb3H.out.frozen (p := ⟨w.heap.size + 1 + 1, 0, none⟩) l2).trans df, Lib.hid (hgb.out.below hb3H.out)⟩
      · have hnx := Lib.hid (decN_yes he hr (by omega))
        have hneg' : 0 ≤ r := by omega
        clear he hr
        obtain ⟨L, hL⟩ : ∃ L, decN xs K B j = L := ⟨_, rfl⟩
        rw [hL] at hO hkl hnx d0
        obtain ⟨q, hq2⟩ : ∃ q, L.length = q := ⟨_, rfl⟩
        rw [hq2] at hO hkl d0
        have hqH := Lib.hid hq2
        clear hL hq2
        go_wp2_with (first
          | (go_at_call 45; refine (complete_any (hAw.out.below RPl.stable (by exact bel_)) hfH.out hk hrge.1 hrge.2 hrH.out).mono ?_; rintro e' w3 ⟨rfl, hb3⟩; have f0 : w3.cell? ⟨wr.heap.size, 0, none⟩ = some (.int .i64 e.x) := (hb3.cell (p := ⟨wr.heap.size, 0, none⟩) (by simp)).trans (by go_simp); have f1 : w3.cell? ⟨wr.heap.size, 1, none⟩ = some (.int .i64 e.y) := (hb3.cell (p := ⟨wr.heap.size, 1, none⟩) (by simp)).trans (by go_simp); have hb3H := Lib.hid (show Below wr.heap.size wr w3 by exact bel_); have hs3 : wr.heap.size < w3.heap.size := (by have := hb3.size; simp at this; omega); have g0 := (hb3H.out.cell (p := ⟨w.heap.size + 1 + 1, 0, none⟩) l2).trans d0; have g1 := (hb3H.out.frozen (p := ⟨w.heap.size + 1 + 1, 0, none⟩) l2).trans df; have l3 : w.heap.size + 1 + 1 < w3.heap.size := (by omega); clear hb3)
          | (at_builtin; refine wpList_append_own_at _ rfl _ _ 38 rfl w2.heap.size 81 i2 (.agg #[.int .i64 0, .int .i64 0, .int .i64 0]) 3 24 Try.underlying38 hi2 hz02 hz12 hz22 rfl (by decide) (.slice A3 q c3) q (plCells L) rfl ((ownsRow_below hO.out hb3H.out).alloc _) ⟨w3.heap.size, 0, none⟩ 1 1 [.int .i64 e.x, .int .i64 e.y, .int .i64 r] rfl rfl (cell_three_new _ _ _ _ _) (fun x hx => by simp at hx; rcases hx with rfl | rfl | rfl <;> rfl) (by unfold maxLen; omega) (by omega) (by simp; omega) ?_; intro v5 w5 hown5 hgrow5 _ hat5; obtain ⟨A5, c5, rfl⟩ := ownsRow_form hown5; have hbX := (hb3H.out.mono (by omega)).trans (below_app (B0 := w2.heap.size) (by omega) (fun g e => (hO.out.lt g e).1) hgrow5); have m2 := (hbX.cell (p := ⟨w.heap.size + 1 + 1, 0, none⟩) (by simp only; omega)).trans d0; have mf := (hbX.frozen (p := ⟨w.heap.size + 1 + 1, 0, none⟩) (by simp only; omega)).trans df; have hG5 := Lib.hid (Gb.app ((hgb.out.below hb3H.out).below (bl_al (bl_refl _) _)) hgrow5 (fun g hg => Or.inr (hO.out.lt g hg).1)); have hown5H := Lib.hid hown5; clear hown5 hgrow5 hat5 hbX))
        go_roundg (m - (j + 1))
        case measure => omega
        case rel =>
          refine ⟨j + 1, A5, c5, by omega, by go_num, Lib.hid ?_, ?_, by go_simp, Lib.hid (hG5.out.set 0 _)⟩
          · rw [hnx.out, plCells_snoc, List.length_append, hqH.out]
            exact ownsRow_setCell_below hown5H.out (by show w.heap.size + 1 + 1 < w2.heap.size; omega) _
          · rw [hnx.out, List.length_append, hqH.out]
            go_simp
    · obtain rfl : j = m := by omega
      have b0 := (hgb.out.cell (o := 0) (show w.heap.size + 1 < w2.heap.size by omega) (by omega)).trans r0H.out
      have b1 : wr.frozen? ⟨w.heap.size + 1, 0, none⟩ = false := (World.frozen?_of_block (w := w2) (hgb.out.block (w.heap.size + 1) (by omega) (by simp))).trans rfH.out
      have l1 : w.heap.size + 1 < wr.heap.size := by omega
      rw [← hR2H.out] at hO d0
      clear a0
      go_wp2
      refine bodyPost_ret (v := .agg #[.slice A3 (decB xs K).length c3]) (by simp only [results, Try.results36]; go_simp) rfl ?_
      refine ⟨A3, c3, rfl, ?_, ?_⟩
      · exact ownsRow_baseQ (ownsRow_setCell_below hO.out (by show w.heap.size + 1 < w2.heap.size; omega) _) (by omega)
      · exact (hbw2H.out.trans (hgb.out.toBelow (by omega) (by omega))).setCell (p := ⟨w.heap.size + 1, 0, none⟩) (by simp) _
end Go.Proofs.Ytkfjojpohcieeaa
/- Walks: DecodeBlocks of the reference. -/

namespace Go.Proofs.Ytkfjojpohcieeaa
open Go.RowKit Go.Shelf
attribute [local go_sem] BelowBy.cell BelowBy.cell_drew stillUpon givesUpon BelowBy.cell_drew2 BelowBy.cell_drew3

set_option maxRecDepth 100000 in
set_option maxHeartbeats 4000000 in
theorem l26Decode_any {p K : Nat} {A : Option Addr} {n c : Nat} {xs : List Pl} {w : World} (hp : p < w.heap.size) (hc0 : w.cell? ⟨p, 0, none⟩ = some (.slice A n c)) (h : RdSl 3 RPl w A n xs) (hf : hasFormB xs = true) (hk : 1 ≤ K ∧ K ≤ 4) :
    Calls Try.prog 33 #[.pointer (some ⟨p, 0, none⟩), .int .i64 (K : Int)] w (AgPl w (decB xs K)) := by
  obtain ⟨i2, hi2, hz02, hz12, hz22⟩ := info_parts infoPlQ
  have hH := Lib.hid h
  have hA0 := Lib.hid (show AsmAt w p 0 xs from ⟨hp, ⟨A, n, c, hc0, h⟩⟩)
  have hfH := Lib.hid hf
  have hkI : 1 ≤ (K : Int) ∧ (K : Int) ≤ 4 := by omega
  have hbl := blocksP_len hf (K : Int)
  have hrg := Lib.hid (fun (b : Pt) hb => blocksP_rng hf (k := (K : Int)) hkI (b := b) hb)
  have hltH := Lib.hid (fun (hn0 : 0 < n) => (h.cells hn0))
  have hc0H := Lib.hid hc0
  have hR2 : decB xs K = decN xs K (blocksP (K : Int) xs) (blocksP (K : Int) xs).length := rfl
  clear h hf hc0
  go_enter Try.func33, Try.ntmps33
  go_wp2_with fail
  refine (l26Blocks_any (hA0.out.below (by exact bel_)) hfH.out hkI).mono ?_
  rintro e w2 ⟨v2, rfl, hown, hb2⟩
  obtain ⟨B, hB⟩ : ∃ B, blocksP (K : Int) xs = B := ⟨_, rfl⟩
  rw [hB] at hown hbl hrg hR2
  obtain ⟨m, hm⟩ : ∃ m, B.length = m := ⟨_, rfl⟩
  rw [hm] at hown hbl hR2
  have hR2H := Lib.hid hR2
  obtain ⟨A2, c2, rfl⟩ := ownsRow_form hown
  have hs2 : w.heap.size + 2 ≤ w2.heap.size := by have := hb2.size; simp at this; omega
  have hrdB := Lib.hid (rdPts hown hm.symm)
  have hneB := Lib.hid (show 0 < m → ∀ b o, A2 = some ⟨b, o, none⟩ → b ≠ w.heap.size + 1 from fun _ b o e => by
    subst e
    have := (hown.lt b rfl).1
    simp at this
    omega)
  have hneA := Lib.hid (show 0 < n → ∀ b o, A = some ⟨b, o, none⟩ → b ≠ w.heap.size + 1 from fun hn0 b o he => by
    obtain ⟨b', o', e', hlt, _⟩ := hltH.out hn0
    rw [he] at e'
    injection e' with e'
    injection e' with e1 e2
    omega)
  have r0 : w2.cell? ⟨w.heap.size, 0, none⟩ = some (.slice none 0 0) := (hb2.cell (p := ⟨w.heap.size, 0, none⟩) (by simp; try omega)).trans (by go_simp)
  have rf : w2.frozen? ⟨w.heap.size, 0, none⟩ = false := (hb2.frozen (p := ⟨w.heap.size, 0, none⟩) (by simp; try omega)).trans (by go_simp)
  have d0 : w2.cell? ⟨w.heap.size + 1, 0, none⟩ = some (.slice none 0 0) := (hb2.cell (p := ⟨w.heap.size + 1, 0, none⟩) (by simp; try omega)).trans (by go_simp)
  have df : w2.frozen? ⟨w.heap.size + 1, 0, none⟩ = false := (hb2.frozen (p := ⟨w.heap.size + 1, 0, none⟩) (by simp; try omega)).trans (by go_simp)
  have hbw2H := Lib.hid (show Below w.heap.size w w2 by exact bel_)
  have hxs2 := Lib.hid (hH.out.below RPl.stable hbw2H.out)
  have hcp2 := Lib.hid ((hbw2H.out.cell (p := ⟨p, 0, none⟩) hp).trans hc0H.out)
  have r0H := Lib.hid r0
  have rfH := Lib.hid rf
  clear hb2 hown hm hR2 hB r0 rf
  go_wp2
  go_loopg [7] m (fun g i wr => ∃ (j : Nat) (A3 : Option Addr) (c3 : Nat), j + g = m ∧ i = .int .i64 (j : Int) ∧ Hid (wr.ownsRow w2.heap.size 81 3 (.slice A3 (decN xs K B j).length c3) (decN xs K B j).length (plCells (decN xs K B j))) ∧ wr.cell? ⟨w.heap.size + 1, 0, none⟩ = some (.slice A3 (decN xs K B j).length c3) ∧ wr.frozen? ⟨w.heap.size + 1, 0, none⟩ = false ∧ Hid (Gb (w.heap.size + 1) w2 wr))
  case atStart => exact ⟨0, none, 0, by omega, rfl, Lib.hid (World.ownsRow_nil _ _ _ _), d0, df, Lib.hid (Gb.refl _ _)⟩
  case round =>
    clear d0 df
    obtain ⟨j, A3, c3, hj, rfl, hO, d0, df, hgb⟩ := hrel
    have hszl := hgb.out.size
    have l2 : w.heap.size + 1 < wr.heap.size := by omega
    have hkl := decN_len xs K B j
    by_cases hkn : j < m
    · have hrw := hrdB.out.gbT hneB.out hgb.out
      obtain ⟨bb, ob, rfl, hbb, hbc⟩ := hrw.ptr (by omega)
      obtain ⟨e, he⟩ := hrw.get hkn
      obtain ⟨e0, e1⟩ := hbc j e he
      have hrge := hrg.out e (List.mem_of_getElem? he)
      have hAw := Lib.hid (show AsmAt wr p 0 xs from ⟨by omega, ⟨A, n, c, (hgb.out.cell (o := 0) (show p < w2.heap.size by omega) (by omega)).trans hcp2.out, hxs2.out.gbP hneA.out hgb.out⟩⟩)
      obtain ⟨r, hr⟩ : ∃ r, compI xs K ⟨e.x, e.y⟩ = r := ⟨_, rfl⟩
      have hrH := Lib.hid hr
      clear hbc hrw
      by_cases hneg : r < 0
      · have hnx := Lib.hid (decN_no he hr hneg)
        have hneg' : ¬ 0 ≤ r := by omega
        clear he hr
        go_wp2_with (go_at_call 41; refine (l26Complete_any hAw.out hfH.out hk hrge.1 hrge.2 hrH.out).mono ?_; rintro e' w3 ⟨rfl, hb3⟩; have hb3H := Lib.hid hb3; clear hb3)
        go_roundg (m - (j + 1))
        case measure => omega
        case rel => exact ⟨j + 1, A3, c3, by omega, by go_num, Lib.hid (by rw [hnx.out]; exact ownsRow_below hO.out hb3H.out), by rw [hnx.out]; exact (hb3H.out.cell (p := ⟨w.heap.size + 1, 0, none⟩) l2).trans d0, (hb3H.out.frozen (p := ⟨w.heap.size + 1, 0, none⟩) l2).trans df, Lib.hid (hgb.out.below hb3H.out)⟩
      · have hnx := Lib.hid (decN_yes he hr (by omega))
        have hneg' : 0 ≤ r := by omega
        clear he hr
        obtain ⟨L, hL⟩ : ∃ L, decN xs K B j = L := ⟨_, rfl⟩
        rw [hL] at hO hkl hnx d0
        obtain ⟨q, hq2⟩ : ∃ q, L.length = q := ⟨_, rfl⟩
        rw [hq2] at hO hkl d0
        have hqH := Lib.hid hq2
        clear hL hq2
        go_wp2_with fail
        refine (l26Complete_any hAw.out hfH.out hk hrge.1 hrge.2 hrH.out).mono ?_
        rintro e' w3 ⟨rfl, hb3⟩
        have f0 := (hb3.cell (p := ⟨bb, ob + j * 2, none⟩) hbb).trans e0
        have f1 := (hb3.cell (p := ⟨bb, ob + j * 2 + 1, none⟩) hbb).trans e1
        have hbl3 := Nat.lt_of_lt_of_le hbb hb3.size
        have g0 := (hb3.cell (p := ⟨w.heap.size + 1, 0, none⟩) l2).trans d0
        have g1 := (hb3.frozen (p := ⟨w.heap.size + 1, 0, none⟩) l2).trans df
        have hs3 := hb3.size
        have l3 : w.heap.size + 1 < w3.heap.size := by omega
        have hb3H := Lib.hid hb3
        clear hb3 e0 e1
        go_wp2
        refine wp_region_ord [(0, .q), (1, .q), (2, .q), (3, .q), (4, .q), (5, .q), (6, .q), (7, .q), (8, .g), (9, .b), (10, .q), (11, .b)] (by kernel_rfl) (by kernel_rfl) ?_
        simp only [pick, List.filterMap_cons, List.filterMap_nil, List.getElem?_toArray, List.getElem?_cons_zero, List.getElem?_cons_succ, Option.map_some]
        repeat (first
          | ((with_reducible refine wpD_p (fun K hK => ?_)); go_simp; refine hK _ ?_; clear hK K)
          | ((with_reducible refine wpD_q (fun K hK => ?_)); go_simp; (first | refine hK _ ?_ | (go_bits; refine hK _ ?_) | (go_bits; go_simp; refine hK _ ?_)); clear hK K)
          | ((with_reducible refine wpD_g (fun K hK => ?_)); go_simp; refine hK _ _ ?_; clear hK K)
          | ((with_reducible refine wpD_g (fun K hK => ?_)); go_simp; refine ⟨Grew.of_alloc _, hK _ _ ?_⟩; clear hK K))
        refine wpD_append rfl _ _ 38 rfl w2.heap.size 81 i2 (.agg #[.int .i64 0, .int .i64 0, .int .i64 0]) 3 24 Try.underlying38 hi2 hz02 hz12 hz22 rfl (by decide) (.slice A3 q c3) q (plCells L) (by go_simp) (ownsRow_below (ownsRow_below hO.out hb3H.out) (by exact bel_)) ⟨w3.heap.size, 0, none⟩ 1 1 [.int .i64 e.x, .int .i64 e.y, .int .i64 r] (by go_simp) rfl ?hnews (fun x hx => by simp at hx; rcases hx with rfl | rfl | rfl <;> rfl) (by unfold maxLen; omega) (by omega) (by simp; omega) ?_
        case hnews =>
          have := cell_three_new w3 (.int .i64 e.x) (.int .i64 e.y) (.int .i64 r) 81
          simpa using this
        intro v5 w5 hown5 hgrow5
        obtain ⟨A5, c5, rfl⟩ := ownsRow_form hown5
        have hT : Below w3.heap.size w3 (w3.alloc (Obj.cells #[.int .i64 e.x, .int .i64 e.y, .int .i64 r] 81)).drew := bl_dr (bl_al (bl_refl _) _)
        have hbX : Below w2.heap.size wr w5 := ((hb3H.out.trans (hT.mono hs3)).mono (by omega)).grown hgrow5 (by simp; omega) (fun g e => (hO.out.lt g e).1)
        have m2 := (hbX.cell (p := ⟨w.heap.size + 1, 0, none⟩) (by simp only; omega)).trans d0
        have mf := (hbX.frozen (p := ⟨w.heap.size + 1, 0, none⟩) (by simp only; omega)).trans df
        have l5 : w.heap.size + 1 < w5.heap.size := by have := hbX.size; omega
        have hG5 := Lib.hid (Gb.app ((hgb.out.below hb3H.out).below hT) hgrow5 (fun g hg => Or.inr (hO.out.lt g hg).1))
        have hown5H := Lib.hid hown5
        clear hown5 hgrow5 hbX hT
        repeat (first | ((with_reducible refine wpD_p (fun K hK => ?_)); go_simp; refine hK _ ?_; clear hK K) | ((with_reducible refine wpD_q (fun K hK => ?_)); go_simp; (first | refine hK _ ?_ | (go_bits; refine hK _ ?_) | (go_bits; go_simp; refine hK _ ?_)); clear hK K))
        with_reducible refine wpD_b (fun K hK => ?_)
        go_simp
        refine hK _ _ ?_
        clear hK K
        with_reducible refine wpD_nil ?_
        go_wp2
        go_roundg (m - (j + 1))
        case measure => omega
        case rel =>
          refine ⟨j + 1, A5, c5, by omega, by go_num, Lib.hid ?_, ?_, by go_simp, Lib.hid (hG5.out.set 0 _)⟩
          · rw [hnx.out, plCells_snoc, List.length_append, hqH.out]
            exact ownsRow_setCell_below hown5H.out (by show w.heap.size + 1 < w2.heap.size; omega) _
          · rw [hnx.out, List.length_append, hqH.out]
            go_simp
    · obtain rfl : j = m := by omega
      have b0 := (hgb.out.cell (o := 0) (show w.heap.size < w2.heap.size by omega) (by omega)).trans r0H.out
      have b1 : wr.frozen? ⟨w.heap.size, 0, none⟩ = false := (World.frozen?_of_block (w := w2) (hgb.out.block (w.heap.size) (by omega) (by simp))).trans rfH.out
      have l1 : w.heap.size < wr.heap.size := by omega
      rw [← hR2H.out] at hO d0
      go_wp2
      refine bodyPost_ret (v := .agg #[.slice A3 (decB xs K).length c3]) (by simp only [results, Try.results33]; go_simp) rfl ?_
      refine ⟨A3, c3, rfl, ?_, ?_⟩
      · exact ownsRow_baseQ (ownsRow_setCell_below hO.out (by show w.heap.size < w2.heap.size; omega) _) (by omega)
      · exact (hbw2H.out.trans (hgb.out.toBelow (by omega) (by omega))).setCell (p := ⟨w.heap.size, 0, none⟩) (by simp) _
end Go.Proofs.Ytkfjojpohcieeaa
/- Walks: DecodeBlocks of both. -/

namespace Go.Proofs.Ytkfjojpohcieeaa
open Go.RowKit Go.Shelf
attribute [local go_sem] BelowBy.cell BelowBy.cell_drew stillUpon givesUpon

set_option maxRecDepth 100000 in
set_option maxHeartbeats 4000000 in
theorem DecodeBlocks_any (A : Option Addr) (n c : Nat) (xs : List Pl) (k : Int) (w : World) (h : RdSl 3 RPl w A n xs) (hn : n ≤ 1073741824) :
    Calls Try.prog 18 #[.agg #[.slice A n c], .int .i64 k] w (AsmRes w (decR xs k)) := by
  have hH := Lib.hid h
  clear h
  by_cases hc : blkCode xs k = 0
  · have hR := Lib.hid (show decR xs k = (decB xs k.toNat, 0) by unfold decR; rw [if_pos hc])
    obtain ⟨hf, hk1, hk2⟩ := blkCode_zero hc
    obtain ⟨K, rfl⟩ : ∃ K : Nat, k = (K : Int) := ⟨k.toNat, by omega⟩
    have hcH := Lib.hid hc
    have hfH := Lib.hid hf
    have hk' : 1 ≤ K ∧ K ≤ 4 := by omega
    clear hc hf
    go_enter Try.func18, Try.ntmps18
    go_wp2_with fail
    refine (blockCode_at (hH.out.below RPl.stable (by exact bel_)) hn hcH.out).mono ?_
    rintro e w1 ⟨rfl, hb1⟩
    have a0 : w1.cell? ⟨w.heap.size, 0, none⟩ = some (.slice A n c) := (hb1.cell (p := ⟨w.heap.size, 0, none⟩) (by simp; try omega)).trans (by go_simp)
    have r0 : w1.cell? ⟨w.heap.size + 1, 0, none⟩ = some (.slice none 0 0) := (hb1.cell (p := ⟨w.heap.size + 1, 0, none⟩) (by simp; try omega)).trans (by go_simp)
    have rf : w1.frozen? ⟨w.heap.size + 1, 0, none⟩ = false := (hb1.frozen (p := ⟨w.heap.size + 1, 0, none⟩) (by simp; try omega)).trans (by go_simp)
    have hs1 : w.heap.size + 2 ≤ w1.heap.size := by have := hb1.size; simp at this; omega
    have l0 : w.heap.size < w1.heap.size := by omega
    have l1 : w.heap.size + 1 < w1.heap.size := by omega
    have hb1H := Lib.hid (show Below w.heap.size w w1 by exact bel_)
    clear hb1
    have a0H := Lib.hid a0
    go_wp2_with fail
    refine (decodeBlocks_any (hH.out.below RPl.stable hb1H.out) hfH.out hk').mono ?_
    rintro e w2 ⟨A3, c3, rfl, hown, hb2⟩
    have r2 := (hb2.cell (p := ⟨w.heap.size + 1, 0, none⟩) l1).trans r0
    have rf2 := (hb2.frozen (p := ⟨w.heap.size + 1, 0, none⟩) l1).trans rf
    have l2 : w.heap.size + 1 < w2.heap.size := Nat.lt_of_lt_of_le l1 hb2.size
    have hb2H := Lib.hid hb2
    have hownH := Lib.hid hown
    clear hb2 hown r0 rf a0
    go_wp2
    refine bodyPost_ret (v := .tuple #[.agg #[.slice A3 (decB xs K).length c3], .int .i64 0]) (by simp only [results, Try.results18]; go_simp) rfl ?_
    refine AsmRes.of (bs := decB xs K) hR.out.symm rfl ?_ ?_
    · exact ownsRow_baseQ (ownsRow_setCell_below hownH.out (by show w.heap.size + 1 < w1.heap.size; omega) _) (by omega)
    · exact (hb1H.out.trans (hb2H.out.mono (by omega))).setCell (p := ⟨w.heap.size + 1, 0, none⟩) (by simp) _
  · have hR := Lib.hid (show decR xs k = ([], blkCode xs k) by unfold decR; rw [if_neg hc])
    obtain ⟨r, hr⟩ : ∃ r, blkCode xs k = r := ⟨_, rfl⟩
    rw [hr] at hR hc
    have hrH := Lib.hid hr
    have hb : (r != 0) = true := by simpa using hc
    clear hr
    go_enter Try.func18, Try.ntmps18
    go_wp2_with fail
    refine (blockCode_at (hH.out.below RPl.stable (by exact bel_)) hn hrH.out).mono ?_
    rintro e w1 ⟨rfl, hb1⟩
    have a0 : w1.cell? ⟨w.heap.size, 0, none⟩ = some (.slice A n c) := (hb1.cell (p := ⟨w.heap.size, 0, none⟩) (by simp; try omega)).trans (by go_simp)
    have r0 : w1.cell? ⟨w.heap.size + 1, 0, none⟩ = some (.slice none 0 0) := (hb1.cell (p := ⟨w.heap.size + 1, 0, none⟩) (by simp; try omega)).trans (by go_simp)
    have rf : w1.frozen? ⟨w.heap.size + 1, 0, none⟩ = false := (hb1.frozen (p := ⟨w.heap.size + 1, 0, none⟩) (by simp; try omega)).trans (by go_simp)
    have hs1 : w.heap.size + 2 ≤ w1.heap.size := by have := hb1.size; simp at this; omega
    have l0 : w.heap.size < w1.heap.size := by omega
    have l1 : w.heap.size + 1 < w1.heap.size := by omega
    have hb1H := Lib.hid (show Below w.heap.size w w1 by exact bel_)
    clear hb1
    go_wp2
    refine bodyPost_ret (v := .tuple #[.agg #[.slice none 0 0], .int .i64 r]) (by simp only [results, Try.results18]; go_simp) rfl ?_
    refine AsmRes.of (bs := []) (n := 0) hR.out.symm rfl (World.ownsRow_nil _ _ _ _) ?_
    exact hb1H.out.setCell (p := ⟨w.heap.size + 1, 0, none⟩) (by simp) _
set_option maxRecDepth 100000 in
set_option maxHeartbeats 4000000 in
theorem sDecodeBlocks_any (A : Option Addr) (n c : Nat) (xs : List Pl) (k : Int) (w : World) (h : RdSl 3 RPl w A n xs) (hn : n ≤ 1073741824) :
    Calls Try.prog 16 #[.agg #[.slice A n c], .int .i64 k] w (AsmRes w (decR xs k)) := by
  have hH := Lib.hid h
  have hq : xs.length ≤ 1073741824 := by rw [h.len]; exact hn
  have hA0H := Lib.hid (show AsmAt ((w.alloc (.cells #[.slice A n c] 40)).alloc (.cells #[.slice none 0 0] 40)) w.heap.size 0 xs from ⟨by simp; omega, ⟨A, n, c, by go_simp, h.below RPl.stable (bl_al (bl_al (bl_refl _) _) _)⟩⟩)
  clear h
  by_cases hc : blkCode xs k = 0
  · have hR := Lib.hid (show decR xs k = (decB xs k.toNat, 0) by unfold decR; rw [if_pos hc])
    obtain ⟨hf, hk1, hk2⟩ := blkCode_zero hc
    obtain ⟨K, rfl⟩ : ∃ K : Nat, k = (K : Int) := ⟨k.toNat, by omega⟩
    have hcH := Lib.hid hc
    have hfH := Lib.hid hf
    have hk' : 1 ≤ K ∧ K ≤ 4 := by omega
    clear hc hf
    go_enter Try.func16, Try.ntmps16
    go_wp2_with fail
    refine (l26Asked_at hA0H.out hq hcH.out).mono ?_
    rintro e w1 ⟨rfl, hb1⟩
    have a0 : w1.cell? ⟨w.heap.size, 0, none⟩ = some (.slice A n c) := (hb1.cell (p := ⟨w.heap.size, 0, none⟩) (by simp; try omega)).trans (by go_simp)
    have r0 : w1.cell? ⟨w.heap.size + 1, 0, none⟩ = some (.slice none 0 0) := (hb1.cell (p := ⟨w.heap.size + 1, 0, none⟩) (by simp; try omega)).trans (by go_simp)
    have rf : w1.frozen? ⟨w.heap.size + 1, 0, none⟩ = false := (hb1.frozen (p := ⟨w.heap.size + 1, 0, none⟩) (by simp; try omega)).trans (by go_simp)
    have hs1 : w.heap.size + 2 ≤ w1.heap.size := by have := hb1.size; simp at this; omega
    have l0 : w.heap.size < w1.heap.size := by omega
    have l1 : w.heap.size + 1 < w1.heap.size := by omega
    have hb1H := Lib.hid (show Below w.heap.size w w1 by exact bel_)
    clear hb1
    have a0H := Lib.hid a0
    go_wp2_with fail
    refine (l26Decode_any l0 a0H.out (hH.out.below RPl.stable hb1H.out) hfH.out hk').mono ?_
    rintro e w2 ⟨A3, c3, rfl, hown, hb2⟩
    have r2 := (hb2.cell (p := ⟨w.heap.size + 1, 0, none⟩) l1).trans r0
    have rf2 := (hb2.frozen (p := ⟨w.heap.size + 1, 0, none⟩) l1).trans rf
    have l2 : w.heap.size + 1 < w2.heap.size := Nat.lt_of_lt_of_le l1 hb2.size
    have hb2H := Lib.hid hb2
    have hownH := Lib.hid hown
    clear hb2 hown r0 rf a0
    go_wp2
    refine bodyPost_ret (v := .tuple #[.agg #[.slice A3 (decB xs K).length c3], .int .i64 0]) (by simp only [results, Try.results16]; go_simp) rfl ?_
    refine AsmRes.of (bs := decB xs K) hR.out.symm rfl ?_ ?_
    · exact ownsRow_baseQ (ownsRow_setCell_below hownH.out (by show w.heap.size + 1 < w1.heap.size; omega) _) (by omega)
    · exact (hb1H.out.trans (hb2H.out.mono (by omega))).setCell (p := ⟨w.heap.size + 1, 0, none⟩) (by simp) _
  · have hR := Lib.hid (show decR xs k = ([], blkCode xs k) by unfold decR; rw [if_neg hc])
    obtain ⟨r, hr⟩ : ∃ r, blkCode xs k = r := ⟨_, rfl⟩
    rw [hr] at hR hc
    have hrH := Lib.hid hr
    have hb : (r != 0) = true := by simpa using hc
    clear hr
    go_enter Try.func16, Try.ntmps16
    go_wp2_with fail
    refine (l26Asked_at hA0H.out hq hrH.out).mono ?_
    rintro e w1 ⟨rfl, hb1⟩
    have a0 : w1.cell? ⟨w.heap.size, 0, none⟩ = some (.slice A n c) := (hb1.cell (p := ⟨w.heap.size, 0, none⟩) (by simp; try omega)).trans (by go_simp)
    have r0 : w1.cell? ⟨w.heap.size + 1, 0, none⟩ = some (.slice none 0 0) := (hb1.cell (p := ⟨w.heap.size + 1, 0, none⟩) (by simp; try omega)).trans (by go_simp)
    have rf : w1.frozen? ⟨w.heap.size + 1, 0, none⟩ = false := (hb1.frozen (p := ⟨w.heap.size + 1, 0, none⟩) (by simp; try omega)).trans (by go_simp)
    have hs1 : w.heap.size + 2 ≤ w1.heap.size := by have := hb1.size; simp at this; omega
    have l0 : w.heap.size < w1.heap.size := by omega
    have l1 : w.heap.size + 1 < w1.heap.size := by omega
    have hb1H := Lib.hid (show Below w.heap.size w w1 by exact bel_)
    clear hb1
    go_wp2
    refine bodyPost_ret (v := .tuple #[.agg #[.slice none 0 0], .int .i64 r]) (by simp only [results, Try.results16]; go_simp) rfl ?_
    refine AsmRes.of (bs := []) (n := 0) hR.out.symm rfl (World.ownsRow_nil _ _ _ _) ?_
    exact hb1H.out.setCell (p := ⟨w.heap.size + 1, 0, none⟩) (by simp) _
end Go.Proofs.Ytkfjojpohcieeaa
