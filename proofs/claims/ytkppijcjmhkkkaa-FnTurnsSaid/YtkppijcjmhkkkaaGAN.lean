import Derived.Test.YtkppijcjmhkkkaaGAG
import Derived.Test.YtkppijcjmhkkkaaGAL
import Derived.Test.YtkppijcjmhkkkaaGAM
import Derived.Test.YtkppijcjmhkkkaaGAF
import Derived.Test.YtkppijcjmhkkkaaGAD
import Derived.Lib.LazyBuf
import Derived.Lib.SliceRun
import Derived.Test.YtkppijcjmhkkkaaGAI
set_option linter.unusedSimpArgs false
set_option linter.unusedVariables false
/- Small words: cells behind draws; what is asked of a set and an assembly. -/




namespace Go.Proofs.Ytkppijcjmhkkkaa
open Go.RowKit
theorem BelowBy.cell_drew2 {W : World} (p : BelowBy W.drew.drew) (b o : Nat) (h : b < W.heap.size) : p.world.cell? ⟨b, o, none⟩ = W.cell? ⟨b, o, none⟩ := p.h.cell h
theorem BelowBy.cell_drew3 {W : World} (p : BelowBy W.drew.drew.drew) (b o : Nat) (h : b < W.heap.size) : p.world.cell? ⟨b, o, none⟩ = W.cell? ⟨b, o, none⟩ := p.h.cell h
theorem l00In_at {a b c : Int} {v : Bool} {w : World} (h : inB a b c = v) :
    Calls Try.prog 27 #[.int .i64 a, .int .i64 b, .int .i64 c] w fun e w' => e = .returned (.bool v) ∧ w = w' := by
  rw [← h]; exact l00In_any _ _ _ _
def ChkRes (w : World) (r : Int × Int) (e : Ending) (w' : World) : Prop := e = .returned (.tuple #[.int .i64 r.1, .int .i64 r.2]) ∧ Below w.heap.size w w'
theorem ChkRes.of {w : World} {r : Int × Int} {a b : Int} {w' : World} (h : (a, b) = r) (hb : Below w.heap.size w w') : ChkRes w r (.returned (.tuple #[.int .i64 a, .int .i64 b])) w' := by
  subst h; exact ⟨rfl, hb⟩
theorem wrap_in {n : Int} (h1 : -9000000000000000000 ≤ n) (h2 : n ≤ 9000000000000000000) : IntKind.i64.wrap n = n := by
  simp [IntKind.wrap, IntKind.bits, IntKind.signed]; omega
theorem within_at {a b c : Int} {v : Bool} {w : World} (h : inB a b c = v) :
    Calls Try.prog 23 #[.int .i64 a, .int .i64 b, .int .i64 c] w fun e w' => e = .returned (.bool v) ∧ w = w' := by
  rw [← h]; exact within_any _ _ _ _
end Go.Proofs.Ytkppijcjmhkkkaa
/- Words on rows of placed tiles; such a row copied. -/




namespace Go.Proofs.Ytkppijcjmhkkkaa
open Go.RowKit Go.Shelf
attribute [local go_sem] BelowBy.cell BelowBy.cell_drew stillUpon givesUpon BelowBy.cell_drew2 BelowBy.cell_drew3

def plCells : List Pl → List Value
  | [] => []
  | b :: l => .int .i64 b.x :: .int .i64 b.y :: .int .i64 b.t :: plCells l
theorem plCells_len (l : List Pl) : (plCells l).length = l.length * 3 := by
  induction l with
  | nil => rfl
  | cons b l ih => simp only [plCells, List.length_cons, ih]; omega
theorem plCells_snoc (l : List Pl) (b : Pl) : plCells (l ++ [b]) = plCells l ++ [.int .i64 b.x, .int .i64 b.y, .int .i64 b.t] := by
  induction l with
  | nil => rfl
  | cons a l ih => simp [plCells, ih]
theorem plCells_one (bs : List Pl) : ∀ u ∈ plCells bs, u.oneCell' = true := by
  induction bs with
  | nil => simp [plCells]
  | cons b l ih =>
    intro u hu
    simp only [plCells, List.mem_cons] at hu
    rcases hu with rfl | rfl | rfl | hu
    · rfl
    · rfl
    · rfl
    · exact ih u hu
theorem plCells_get : ∀ (bs : List Pl) (k : Nat) (e : Pl), bs[k]? = some e → (plCells bs)[k * 3]? = some (.int .i64 e.x) ∧ (plCells bs)[k * 3 + 1]? = some (.int .i64 e.y) ∧ (plCells bs)[k * 3 + 2]? = some (.int .i64 e.t)
  | [], k, e, h => by simp at h
  | b :: bs, 0, e, h => by
    simp at h
    subst h
    simp [plCells]
  | b :: bs, k + 1, e, h => by
    have := plCells_get bs k e (by simpa using h)
    have h3 : (k + 1) * 3 = k * 3 + 1 + 1 + 1 := by omega
    rw [h3]
    simpa [plCells, Nat.add_assoc] using this
theorem plCells_set : ∀ (bs : List Pl) (k : Nat) (e : Pl) (x y : Int), bs[k]? = some e → ((plCells bs).set (k * 3) (.int .i64 x)).set (k * 3 + 1) (.int .i64 y) = plCells (bs.set k ⟨x, y, e.t⟩)
  | [], k, e, x, y, h => by simp at h
  | b :: bs, 0, e, x, y, h => by
    simp at h
    subst h
    simp [plCells]
  | b :: bs, k + 1, e, x, y, h => by
    have := plCells_set bs k e x y (by simpa using h)
    have h3 : (k + 1) * 3 = k * 3 + 1 + 1 + 1 := by omega
    rw [h3]
    simpa [plCells, Nat.add_assoc] using this
theorem plCells_of_rd {w : World} {b o : Nat} {xs : List Pl} (h : ∀ k e, xs[k]? = some e → RPl w b (o + k * 3) e) : ∀ j u, (plCells xs)[j]? = some u → w.cell? ((⟨b, o, none⟩ : Addr).add j) = some u := by
  intro j u hj
  have hlt := (List.getElem?_eq_some_iff.1 hj).1
  rw [plCells_len] at hlt
  obtain ⟨k, hk⟩ : ∃ k, j / 3 = k := ⟨_, rfl⟩
  obtain ⟨e, he⟩ : ∃ e, xs[k]? = some e := ⟨_, List.getElem?_eq_getElem (by omega)⟩
  obtain ⟨g0, g1, g2⟩ := plCells_get xs _ e he
  obtain ⟨c0, c1, c2⟩ := h _ e he
  rw [Addr.add_lit]
  have : j = k * 3 ∨ j = k * 3 + 1 ∨ j = k * 3 + 2 := by omega
  rcases this with rfl | rfl | rfl
  · rw [← Option.some.inj (g0.symm.trans hj)]; exact c0
  · rw [← Option.some.inj (g1.symm.trans hj), ← Nat.add_assoc]; exact c1
  · rw [← Option.some.inj (g2.symm.trans hj), ← Nat.add_assoc]; exact c2
theorem rdP_of_row {W : World} {base : Nat} {T : TypeId} {v : Value} {bs : List Pl} (h : W.ownsRow base T 3 v bs.length (plCells bs)) : ∃ A cap, v = .slice A bs.length cap ∧ RdSl 3 RPl W A bs.length bs := by
  rcases h.2 with ⟨rfl, h0⟩ | ⟨g, cap, cur, rfl, hb, hh, hn, hm, hs, ht⟩
  · exact ⟨none, 0, by rw [h0], rfl, fun hp => by omega⟩
  · refine ⟨_, cap, rfl, rfl, fun hp => ⟨g, 0, rfl, (Array.getElem?_eq_some_iff.1 hh).1, fun k hk => ?_⟩⟩
    have hg := plCells_get bs k _ (List.getElem?_eq_getElem hk)
    rw [← ht] at hg
    have hcell : ∀ j u, (cur.toList.take (bs.length * 3))[j]? = some u → W.cell? ⟨g, j, none⟩ = some u := fun j u hj => by
      rw [List.getElem?_take] at hj
      split at hj
      · simp only [World.cell?, hh]
        simpa using hj
      · cases hj
    rw [Nat.zero_add]
    exact ⟨hcell _ _ hg.1, hcell _ _ hg.2.1, hcell _ _ hg.2.2⟩
end Go.Proofs.Ytkppijcjmhkkkaa
/- Walks: a row of points from which those are struck out that a closure names. -/



namespace Go.Proofs.Ytkppijcjmhkkkaa
open Go.RowKit Go.Shelf
attribute [local go_sem] BelowBy.cell BelowBy.cell_drew stillUpon givesUpon BelowBy.cell_drew2 BelowBy.cell_drew3

/-- nothing that was there has turned, but block g -/
def Gb (g : Nat) (w w' : World) : Prop := w.grownBy w' (some g)
section
variable {g : Nat} {w w' w'' : World}
theorem Gb.refl (g : Nat) (w : World) : Gb g w w := ⟨rfl, rfl, rfl, Nat.le_refl _, fun _ _ _ => rfl⟩
theorem Gb.size (h : Gb g w w') : w.heap.size ≤ w'.heap.size := World.grownBy.size h
theorem Gb.below (h : Gb g w w') (hb : Below w'.heap.size w' w'') : Gb g w w'' := by
  have h2 := grown_below hb none
  exact ⟨h2.os.trans h.os, h2.tape.trans h.tape, h2.output.trans h.output, Nat.le_trans (World.grownBy.size h) h2.size, fun k hk hne => (hb.block k (Nat.lt_of_lt_of_le hk (World.grownBy.size h))).trans (h.block k hk hne)⟩
theorem Gb.of_below (hb : Below w.heap.size w w') : Gb g w w' := (Gb.refl g w).below hb
theorem Gb.trans (h : Gb g w w') (h2 : Gb g w' w'') : Gb g w w'' :=
  ⟨h2.os.trans h.os, h2.tape.trans h.tape, h2.output.trans h.output, Nat.le_trans (World.grownBy.size h) (World.grownBy.size h2), fun k hk hne => (h2.block k (Nat.lt_of_lt_of_le hk (World.grownBy.size h)) hne).trans (h.block k hk hne)⟩
theorem Gb.set (h : Gb g w w') (o : Nat) (u : Value) : Gb g w (w'.setCell ⟨g, o, none⟩ u) := h.trans (gby_setCell w' g o u)
theorem Gb.cell (h : Gb g w w') {b o : Nat} (hb : b < w.heap.size) (hne : b ≠ g) : w'.cell? ⟨b, o, none⟩ = w.cell? ⟨b, o, none⟩ := World.cell?_of_block (a := ⟨b, o, none⟩) (h.block b hb (fun e => hne (by injection e)))
theorem Gb.toBelow {base : Nat} (h : Gb g w w') (hb : base ≤ w.heap.size) (hg : base ≤ g) : Below base w w' := (Below.refl base w).grown h hb (fun q e => by injection e with e; omega)
theorem Gb.sets (h : Gb g w w') (o : Nat) : ∀ (vs : List Value), Gb g w (w'.setCells g o vs)
  | vs => by
    have : ∀ (vs : List Value) (o : Nat) (W : World), Gb g w W → Gb g w (W.setCells g o vs) := by
      intro vs
      induction vs with
      | nil => intro o W h; exact h
      | cons v r ih => intro o W h; exact ih (o + 1) _ (h.set o v)
    exact this vs o w' h
end
/-- a closure that tells of each of these points whether it is named -/
def TellsP (g : Nat) (w : World) (f : FuncId) (caps : Array Value) (del : Pt → Bool) (bs : List Pt) : Prop :=
  ∀ W e, Gb g w W → e ∈ bs → Calls Try.prog f (#[.agg #[.int .i64 e.x, .int .i64 e.y]] ++ caps) W fun e' w' => e' = .returned (.bool (del e)) ∧ Below W.heap.size W w'
def FirstN (w : World) (n : Nat) (del : Nat → Bool) (e : Ending) (w' : World) : Prop :=
  ((e = .returned (.int .i64 (-1)) ∧ ∀ j, j < n → del j = false) ∨ ∃ k : Nat, k < n ∧ e = .returned (.int .i64 (k : Int)) ∧ del k = true ∧ ∀ j, j < k → del j = false) ∧ Below w.heap.size w w'
def delAtG {α : Type} (del : α → Bool) (bs : List α) (j : Nat) : Bool := match bs[j]? with
  | none => false
  | some b => del b
theorem delAtG_eq {α : Type} {del : α → Bool} {bs : List α} {j : Nat} {b : α} (h : bs[j]? = some b) : delAtG del bs j = del b := by unfold delAtG; rw [h]
set_option maxHeartbeats 1000000 in
theorem IndexFuncG_any (g : Nat) (f : FuncId) (caps : Array Value) (eg : ∀ args w, (callFunc f args).run Try.prog w = .ok (.enter f args) w) (del : Pt → Bool) (A : Option Addr) (n c : Nat) (bs : List Pt) (w : World) (hB : RdSl 2 RPt w A n bs) (hn : n ≤ 100000) (hC : TellsP g w f caps del bs) :
    Calls Try.prog 70 #[.slice A n c, .func (.func f) #[] caps] w (FirstN w n (delAtG del bs)) := by
  have hCH := Lib.hid hC
  clear hC
  go_enter Try.func70, Try.ntmps70
  go_wp2
  go_loopg [8] n (fun r x wr => ∃ k : Nat, k + r = n ∧ x = .int .i64 (k : Int) ∧ Hid (∀ j, j < k → delAtG del bs j = false) ∧ Below w.heap.size w wr)
  case atStart => exact ⟨0, by omega, rfl, Lib.hid (fun j hj => by omega), bl_refl _⟩
  case round =>
    obtain ⟨k, hk, rfl, hno, hbw⟩ := hrel
    have hB' := hB.below RPt.stable hbw
    by_cases hkn : k < n
    · obtain ⟨b, o, rfl, hb, hc⟩ := hB'.ptr (by omega)
      obtain ⟨e, he⟩ := hB.get hkn
      obtain ⟨c0, c1⟩ := hc k e he
      have hd := delAtG_eq (del := del) he
      have hem := Lib.hid (List.mem_of_getElem? he)
      cases hv : del e
      · have hdH := Lib.hid (hd.trans hv)
        have hvH := Lib.hid hv
        clear hc he hB hB' hd hv
        go_wp2_with fail
        refine (hCH.out _ e (Gb.of_below hbw) hem.out).mono ?_
        rw [hvH.out]
        rintro e' w1 ⟨rfl, hb1⟩
        go_wp2
        go_roundg (n - (k + 1))
        case measure => omega
        case rel => exact ⟨k + 1, by omega, by go_num, Lib.hid (fun j hj => by
          rcases Nat.lt_succ_iff_lt_or_eq.1 hj with hj | rfl
          · exact hno.out j hj
          · exact hdH.out), bl_tr hbw hb1⟩
      · have hdH := Lib.hid (hd.trans hv)
        have hvH := Lib.hid hv
        clear hc he hB hB' hd hv
        go_wp2_with fail
        refine (hCH.out _ e (Gb.of_below hbw) hem.out).mono ?_
        rw [hvH.out]
        rintro e' w1 ⟨rfl, hb1⟩
        go_wp2
        go_ret
        exact ⟨Or.inr ⟨k, hkn, rfl, hdH.out, hno.out⟩, bl_tr hbw hb1⟩
    · obtain rfl : k = n := by omega
      clear hB'
      go_wp2
      go_ret
      exact ⟨Or.inl ⟨rfl, hno.out⟩, hbw⟩
theorem run_clear_rowsQ {P : Program} (w : World) (t e ty : TypeId) (z : Value) (ht : P.underlying t = some (.slice e)) (hv : ∀ w, (zeroValue e).run P w = .ok z w) (b o n c : Nat) (hn : 0 < n)
    (hc : ∀ j, j < n * z.cells.size → (w.cell? ⟨b, o + j, none⟩).isSome = true) (hf : ∀ j, j < n * z.cells.size → w.frozen? ⟨b, o + j, none⟩ = false) (h1 : ∀ u ∈ (Builtin.zeroCells z.cells n).toList, u.oneCell' = true) :
    (Builtin.clear_ #[t] ty #[.slice (some ⟨b, o, none⟩) n c]).run P w = .ok (.tuple #[]) (w.setCells b o (Builtin.zeroCells z.cells n).toList) := by
  have hlen : (Builtin.zeroCells z.cells n).toList.length = n * z.cells.size := by simp [size_zeroCells]
  have hst := run_storeCells_cells (P := P) b o (Builtin.zeroCells z.cells n).toList 0 w (by rw [hlen]; simpa using hc) (by rw [hlen]; simpa using hf) h1
  simp only [Nat.add_zero] at hst
  obtain ⟨m, rfl⟩ : ∃ m, n = m + 1 := ⟨n - 1, by omega⟩
  simp [Builtin.clear_, run_underlying ht, hv, hst]
theorem zero2Q (n : Nat) : ∀ u ∈ (Builtin.zeroCells #[Value.int .i64 0, .int .i64 0] n).toList, u.oneCell' = true := by
  intro u hu
  simp only [Builtin.zeroCells, Array.toList_map, List.mem_map] at hu
  obtain ⟨i, _, rfl⟩ := hu
  have : i % 2 = 0 ∨ i % 2 = 1 := by omega
  rcases this with h | h <;> simp [h] <;> rfl
def keepG {α : Type} (del : α → Bool) (bs : List α) (k : Nat) : List α := (bs.take k).filter fun b => !del b
section
variable {α : Type} {del : α → Bool} {bs : List α} {k : Nat}
theorem keepG_succ_yes {e : α} (he : bs[k]? = some e) (h : del e = false) : keepG del bs (k + 1) = keepG del bs k ++ [e] := by
  obtain ⟨hk, rfl⟩ := List.getElem?_eq_some_iff.1 he
  unfold keepG; rw [List.take_succ_eq_append_getElem hk, List.filter_append]; simp [h]
theorem keepG_succ_no {e : α} (he : bs[k]? = some e) (h : del e = true) : keepG del bs (k + 1) = keepG del bs k := by
  obtain ⟨hk, rfl⟩ := List.getElem?_eq_some_iff.1 he
  unfold keepG; rw [List.take_succ_eq_append_getElem hk, List.filter_append]; simp [h]
theorem keepG_len (del : α → Bool) (bs : List α) (k : Nat) : (keepG del bs k).length ≤ k := Nat.le_trans (List.length_filter_le _ _) (List.length_take_le _ _)
theorem keepG_all (h : ∀ j, j < k → delAtG del bs j = false) : keepG del bs k = bs.take k := by
  unfold keepG
  rw [List.filter_eq_self]
  intro b hb
  obtain ⟨j, hj, rfl⟩ := List.mem_iff_getElem.1 hb
  have hj' : j < k ∧ j < bs.length := by simp at hj; omega
  have := h j hj'.1
  rw [delAtG_eq (List.getElem?_eq_getElem hj'.2)] at this
  simpa using this
end
/-- what is left of a row of points -/
def DelPt (base g : Nat) (w : World) (l : List Pt) (e : Ending) (w' : World) : Prop := ∃ c, e = .returned (.slice (some ⟨g, 0, none⟩) l.length c) ∧ w'.ownsRow base 49 2 (.slice (some ⟨g, 0, none⟩) l.length c) l.length (ptCells l) ∧ Gb g w w'
theorem DelPt.of {base g n : Nat} {w w' : World} {l : List Pt} {c : Nat} (hn : n = l.length) (h : w'.ownsRow base 49 2 (.slice (some ⟨g, 0, none⟩) n c) n (ptCells l)) (hb : Gb g w w') : DelPt base g w l (.returned (.slice (some ⟨g, 0, none⟩) n c)) w' := by
  subst hn; exact ⟨c, rfl, h, hb⟩
theorem owns_of_rowQ {w : World} {g T N base cap size n : Nat} {f : Nat → Value} {xs : List Value} (h : w.rowIs g T N f) (hN : N = cap * size) (hb : base ≤ g) (hn : n ≤ cap) (hm : cap ≤ maxLen) (hl : xs.length = n * size) (hx : ∀ j u, xs[j]? = some u → w.cell? ⟨g, j, none⟩ = some u) : w.ownsRow base T size (.slice (some ⟨g, 0, none⟩) n cap) n xs := by
  obtain ⟨cur, hh, hs, hi⟩ := h
  refine ⟨hl, .inr ⟨g, cap, cur, rfl, hb, hh, hn, hm, hs.trans hN, ?_⟩⟩
  apply List.ext_getElem?
  intro j
  by_cases hj : j < n * size
  · obtain ⟨u, hu⟩ : ∃ u, xs[j]? = some u := ⟨_, List.getElem?_eq_getElem (by omega)⟩
    have := hx j u hu
    simp only [World.cell?, hh] at this
    rw [List.getElem?_take_of_lt hj, Array.getElem?_toList, hu]
    simpa using this
  · rw [List.getElem?_take_eq_none (by omega), List.getElem?_eq_none (by omega)]
set_option maxRecDepth 100000 in
set_option maxHeartbeats 4000000 in
theorem DeleteFuncG_any (base g cap : Nat) (f : FuncId) (caps : Array Value) (eg : ∀ args w, (callFunc f args).run Try.prog w = .ok (.enter f args) w) (del : Pt → Bool) (bs : List Pt) (w : World) (hrow : w.ownsRow base 49 2 (.slice (some ⟨g, 0, none⟩) bs.length cap) bs.length (ptCells bs)) (hn : bs.length ≤ 100000) (hC : TellsP g w f caps del bs) :
    Calls Try.prog 54 #[.slice (some ⟨g, 0, none⟩) bs.length cap, .func (.func f) #[] caps] w (DelPt base g w (keepG del bs bs.length)) := by
  have rdb : RdSl 2 RPt w (some ⟨g, 0, none⟩) bs.length bs := by
    obtain ⟨A, c, e, hr⟩ := rdPt_of_row hrow
    injection e with e1
    subst e1
    exact hr
  obtain ⟨n, hnn⟩ : ∃ n, bs.length = n := ⟨_, rfl⟩
  rw [hnn] at hn rdb hrow
  rw [hnn]
  have hnnH := Lib.hid hnn
  have hCH := Lib.hid hC
  clear hnn hC
  go_enter Try.func54, Try.ntmps54
  go_wp2_with fail
  refine (IndexFuncG_any g f caps eg del _ n cap bs _ rdb hn hCH.out).mono ?_
  rintro e w1 ⟨(⟨rfl, hall⟩ | ⟨k, hkn, rfl, hdk, hall⟩), hb1⟩
  · have hallH := Lib.hid hall
    have rdH := Lib.hid (ownsRow_below hrow hb1)
    have hK := keepG_all (del := del) (bs := bs) (k := n) hall
    rw [List.take_of_length_le (by rw [hnnH.out]; exact Nat.le_refl _)] at hK
    have hKH := Lib.hid hK
    have hb1H := Lib.hid hb1
    clear hall rdb hrow hK hb1
    go_wp2
    go_ret
    rw [hKH.out]
    exact DelPt.of hnnH.out.symm rdH.out (Gb.of_below hb1H.out)
  · have hk1 : ¬ ((k : Int) = -1) := by omega
    have hk1' : ((k : Int) == -1) = false := by simp
    rcases hrow.2 with ⟨h0, h0'⟩ | ⟨g', cap', cur, hv, hb, hh, hnc, hm, hs, ht⟩
    · omega
    obtain ⟨rfl, rfl⟩ : g = g' ∧ cap = cap' := by injection hv with a1 a2 a3; injection a1 with a1; injection a1 with a1; exact ⟨a1, a3⟩
    have hgl : g < w.heap.size := (Array.getElem?_eq_some_iff.1 hh).1
    have hh1 := (hb1.block g hgl).trans hh
    have hrow1 : w1.rowIs g 49 (cap * 2) (fun i => cur.getD i undef) := by
      refine ⟨cur, hh1, hs, fun i hi => ?_⟩
      have : i < cur.size := by omega
      simp [this]
    have hget : ∀ q b, bs[q]? = some b → q < n → cur.getD (q * 2) undef = .int .i64 b.x ∧ cur.getD (q * 2 + 1) undef = .int .i64 b.y := by
      intro q b hq hqn
      obtain ⟨x0, x1⟩ := ptCells_get bs q b hq
      rw [← ht, List.getElem?_take_of_lt (by omega)] at x0 x1
      simp only [Array.getElem?_toList] at x0 x1
      simp [Array.getD_eq_getD_getElem?, x0, x1]
    have hkeep0 := keepG_all (del := del) (bs := bs) (k := k) hall
    obtain ⟨ek, hek⟩ : ∃ e, bs[k]? = some e := ⟨_, List.getElem?_eq_getElem (by rw [hnnH.out]; exact hkn)⟩
    have hkeep1 := keepG_succ_no (del := del) hek (by rw [← delAtG_eq (del := del) hek]; exact hdk)
    have hkl : k = (keepG del bs (k + 1)).length := by rw [hkeep1, hkeep0]; simp; rw [hnnH.out]; omega
    obtain ⟨F0, hF0⟩ : ∃ F : Nat → Pt, ∀ q b, bs[q]? = some b → F q = b := ⟨fun q => match bs[q]? with | some b => b | none => ⟨0, 0⟩, fun q b h => by simp only [h]⟩
    have hst : Hid (k = (keepG del bs (k + 1)).length ∧ (∀ q b, (keepG del bs (k + 1))[q]? = some b → F0 q = b) ∧ (∀ q b, k + 1 ≤ q → bs[q]? = some b → F0 q = b)) := by
      refine Lib.hid ⟨hkl, fun q b hq => ?_, fun q b _ hq => hF0 q b hq⟩
      rw [hkeep1, hkeep0, List.getElem?_take] at hq
      split at hq
      · exact hF0 q b hq
      · cases hq
    have hf0 : Hid (∀ q, q < n → (fun i => cur.getD i undef) (q * 2) = .int .i64 (F0 q).x ∧ (fun i => cur.getD i undef) (q * 2 + 1) = .int .i64 (F0 q).y) := Lib.hid fun q hq => by
      obtain ⟨b, hqb⟩ : ∃ b, bs[q]? = some b := ⟨_, List.getElem?_eq_getElem (by rw [hnnH.out]; exact hq)⟩
      rw [hF0 q b hqb]
      exact hget q b hqb hq
    have hB1 := Lib.hid (Gb.of_below (g := g) hb1)
    have hbg := hb
    have hmO := Lib.hid hm
    clear hkl hF0 hget hkeep0 hkeep1 hek hall rdb hrow hh hh1 hs ht hv hb1 hdk
    go_wp2
    go_loopg [5, 6] (n - (k + 1)) (fun r x y wr => ∃ (i j : Nat) (F : Nat → Pt) (f' : Nat → Value), j + r = n ∧ i < j ∧ x = .int .i64 (i : Int) ∧ y = .int .i64 (j : Int) ∧ Hid (i = (keepG del bs j).length ∧ (∀ q b, (keepG del bs j)[q]? = some b → F q = b) ∧ (∀ q b, j ≤ q → bs[q]? = some b → F q = b)) ∧ wr.rowIs g 49 (cap * 2) f' ∧ Hid (∀ q, q < n → f' (q * 2) = .int .i64 (F q).x ∧ f' (q * 2 + 1) = .int .i64 (F q).y) ∧ Hid (Gb g w wr))
    case atStart => exact ⟨k, k + 1, F0, _, by omega, by omega, rfl, by go_num, hst, hrow1, hf0, hB1⟩
    case round =>
      obtain ⟨i, j, F, f', hj, hij, rfl, rfl, hst', hrw, hf, hbw⟩ := hrel
      clear hst hf0 hrow1
      have hgw : g < wr.heap.size := hrw.lt
      by_cases hlt : j < n
      · obtain ⟨e, he⟩ : ∃ e, bs[j]? = some e := ⟨_, List.getElem?_eq_getElem (by rw [hnnH.out]; exact hlt)⟩
        have hFj := hst'.out.2.2 j e (Nat.le_refl _) he
        obtain ⟨v0, v1⟩ := hf.out j hlt
        rw [hFj] at v0 v1
        have c0 := hrw.cell (i := j * 2) (by omega)
        have c1 := hrw.cell (i := j * 2 + 1) (by omega)
        rw [v0] at c0
        rw [v1] at c1
        have heH := Lib.hid he
        have hrwH := Lib.hid hrw
        clear v0 v1 hFj he hrw
        cases hcd : del e
        · have hnx := Lib.hid (keepG_succ_yes heH.out hcd)
          have hcdH := Lib.hid hcd
          clear hcd
          go_wp2_with fail
          refine (hCH.out _ e (hbw.out.below (by exact bel_)) (List.mem_of_getElem? heH.out)).mono ?_
          rw [hcdH.out]
          rintro e' w2 ⟨rfl, hb2⟩
          have hrw2 := hrwH.out.of_block ((hb2.block g (by simp; omega)).trans (Below.heap_alloc _ _ _ hgw))
          have d0 := hrw2.cell (i := i * 2) (by omega)
          have d1 := hrw2.cell (i := i * 2 + 1) (by omega)
          have k0 := hrw2.frozen (i * 2)
          have k1 := hrw2.frozen (i * 2 + 1)
          have x0 : w2.cell? ⟨wr.heap.size, 0, none⟩ = some (.int .i64 e.x) := (hb2.cell (p := ⟨wr.heap.size, 0, none⟩) (by simp)).trans (by go_simp)
          have x1 : w2.cell? ⟨wr.heap.size, 1, none⟩ = some (.int .i64 e.y) := (hb2.cell (p := ⟨wr.heap.size, 1, none⟩) (by simp)).trans (by go_simp)
          have hB2H := Lib.hid (hbw.out.below (bl_tr (bl_al (bl_refl _) _) hb2))
          have hs2 := hb2.size
          simp at hs2
          have hrw2H := Lib.hid hrw2
          have hin : i < n := by omega
          clear c0 c1 hb2 hrw2
          go_wp2
          go_roundg (n - (j + 1))
          case measure => omega
          case rel => exact ⟨i + 1, j + 1, fun q => if q = i then e else F q, _, by omega, by omega, by go_num, by go_num, Lib.hid ⟨by
              rw [hnx.out, List.length_append, ← hst'.out.1]; rfl, fun q b hq => by
              rw [hnx.out] at hq
              have hil := hst'.out.1
              rcases Nat.lt_or_ge q i with hqi | hqi
              · rw [List.getElem?_append_left (by omega)] at hq
                show (if q = i then e else F q) = b
                rw [if_neg (by omega)]; exact hst'.out.2.1 q b hq
              · rw [List.getElem?_append_right (by omega)] at hq
                have : q - (keepG del bs j).length = 0 := by
                  rcases Nat.eq_zero_or_pos (q - (keepG del bs j).length) with h0 | h0
                  · exact h0
                  · rw [List.getElem?_eq_none (by simp; omega)] at hq; cases hq
                rw [this] at hq
                show (if q = i then e else F q) = b
                rw [if_pos (by omega)]; simpa using hq, fun q b hq hb => by
              show (if q = i then e else F q) = b
              rw [if_neg (by omega)]; exact hst'.out.2.2 q b (by omega) hb⟩, (hrw2H.out.set (i * 2) _).set (i * 2 + 1) _, Lib.hid (fun q hq => by
              obtain ⟨u0, u1⟩ := hf.out q hq
              by_cases hqi : q = i
              · subst hqi
                simp
              · rw [if_neg (by omega), if_neg (by omega), if_neg (by omega), if_neg (by omega)]
                show f' (q * 2) = Value.int .i64 (if q = i then e else F q).x ∧ f' (q * 2 + 1) = Value.int .i64 (if q = i then e else F q).y
                rw [if_neg hqi]
                exact ⟨u0, u1⟩), Lib.hid ((hB2H.out.set (i * 2) _).set (i * 2 + 1) _)⟩
        · have hnx := Lib.hid (keepG_succ_no heH.out hcd)
          have hcdH := Lib.hid hcd
          clear hcd
          go_wp2_with fail
          refine (hCH.out _ e (hbw.out.below (by exact bel_)) (List.mem_of_getElem? heH.out)).mono ?_
          rw [hcdH.out]
          rintro e' w2 ⟨rfl, hb2⟩
          have hrw2 := hrwH.out.of_block ((hb2.block g (by simp; omega)).trans (Below.heap_alloc _ _ _ hgw))
          have hB2H := Lib.hid (hbw.out.below (bl_tr (bl_al (bl_refl _) _) hb2))
          have hrw2H := Lib.hid hrw2
          clear c0 c1 hb2 hrw2
          go_wp2
          go_roundg (n - (j + 1))
          case measure => omega
          case rel => exact ⟨i, j + 1, F, _, by omega, by omega, rfl, by go_num, Lib.hid ⟨by rw [hnx.out]; exact hst'.out.1, fun q b hq => by rw [hnx.out] at hq; exact hst'.out.2.1 q b hq, fun q b hq hb => hst'.out.2.2 q b (by omega) hb⟩, hrw2H.out, hf, hB2H⟩
      · obtain rfl : j = n := by omega
        have hcl := fun (ty : TypeId) => run_clear_rowsQ (P := Try.prog) wr 24 49 ty _ Try.underlying24 Try.zeroValue49 g (i * 2) (j - i) (cap - i) (by omega) (fun q hq => by rw [hrw.cell (i := i * 2 + q) (by simp [Value.cells] at hq; omega)]; rfl) (fun q hq => hrw.frozen _) (zero2Q _)
        have hci : ¬ cap = i := by omega
        go_wp2
        go_ret
        obtain ⟨zs, hzs⟩ : ∃ zs, (Builtin.zeroCells #[Value.int .i64 0, Value.int .i64 0] (j - i)).toList = zs := ⟨_, rfl⟩
        rw [hzs]
        have hrw3 := Go.rowIs_setCells zs (i * 2) wr f' hrw
        have hil := hst'.out.1
        have hfin := hst'.out.2.1
        refine DelPt.of hil (owns_of_rowQ hrw3 rfl hbg (by omega) hmO.out (by rw [ptCells_len, hil]) (fun q u hq => ?_)) (hbw.out.sets (i * 2) zs)
        have hqlt := lt_of_get hq
        rw [ptCells_len] at hqlt
        obtain ⟨e, he⟩ : ∃ e, (keepG del bs j)[q / 2]? = some e := ⟨_, List.getElem?_eq_getElem (by omega)⟩
        have hFq := hfin (q / 2) e he
        obtain ⟨u0, u1⟩ := hf.out (q / 2) (by omega)
        obtain ⟨y0, y1⟩ := ptCells_get _ (q / 2) e he
        rw [hFq] at u0 u1
        rw [hrw3.cell (i := q) (by omega), if_neg (by omega)]
        rcases (show q % 2 = 0 ∨ q % 2 = 1 by omega) with h2 | h2
        · have e1 : q / 2 * 2 = q := by omega
          rw [e1] at u0 y0
          rw [u0, ← y0, hq]
        · have e1 : q / 2 * 2 + 1 = q := by omega
          rw [e1] at u1 y1
          rw [u1, ← y1, hq]
end Go.Proofs.Ytkppijcjmhkkkaa
