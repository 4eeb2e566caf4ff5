import Derived.Test.YtkfjojpohcieeaaQ20
import Derived.Test.YtkfjojpohcieeaaW99p
import Derived.Test.YtkfjojpohcieeaaKQ
import Derived.Test.YtkfjojpohcieeaaPlC
import Derived.Test.YtkfjojpohcieeaaN1
import Derived.Test.YtkfjojpohcieeaaKH
import Derived.Test.YtkfjojpohcieeaaQ11
import Derived.Test.YtkfjojpohcieeaaW101
import Derived.Test.YtkfjojpohcieeaaW102
set_option linter.unusedSimpArgs false
set_option linter.unusedVariables false
/- Plain: the points of a rectangle in order; the points that a shape surrounds. -/

namespace Go.Proofs.Ytkfjojpohcieeaa
open Go.RowKit Go.Lib Go.Sort
/-- the first i points of a row -/
def rowP (lx y : Int) (i : Nat) : List Pt := (List.range i).map fun (k : Nat) => ⟨lx + (k : Int), y⟩
/-- the first j rows of a rectangle -/
def rectP (lx ly : Int) (W : Nat) : Nat → List Pt
  | 0 => []
  | j + 1 => rectP lx ly W j ++ rowP lx (ly + (j : Int)) W
theorem rowP_succ (lx y : Int) (i : Nat) : rowP lx y (i + 1) = rowP lx y i ++ [⟨lx + (i : Int), y⟩] := by
  unfold rowP; rw [List.range_succ, List.map_append]; rfl
theorem rowP_len (lx y : Int) (i : Nat) : (rowP lx y i).length = i := by simp [rowP]
theorem rowP_zero (lx y : Int) : rowP lx y 0 = [] := rfl
theorem rectP_len (lx ly : Int) (W : Nat) : ∀ j, (rectP lx ly W j).length = j * W
  | 0 => by simp [rectP]
  | j + 1 => by simp only [rectP]; rw [List.length_append, rectP_len lx ly W j, rowP_len, Nat.add_mul]; omega
theorem rowP_mem {lx y : Int} {i : Nat} {p : Pt} : p ∈ rowP lx y i ↔ p.y = y ∧ lx ≤ p.x ∧ p.x < lx + (i : Int) := by
  unfold rowP
  rw [List.mem_map]
  constructor
  · rintro ⟨k, hk, rfl⟩
    have := List.mem_range.1 hk
    exact ⟨rfl, by show lx ≤ lx + (k : Int); omega, by show lx + (k : Int) < _; omega⟩
  · rintro ⟨rfl, h1, h2⟩
    refine ⟨(p.x - lx).toNat, List.mem_range.2 (by omega), ?_⟩
    have : lx + ((p.x - lx).toNat : Int) = p.x := by omega
    cases p
    simp_all
theorem rectP_mem {lx ly : Int} {W : Nat} {p : Pt} : ∀ {j : Nat}, p ∈ rectP lx ly W j ↔ (ly ≤ p.y ∧ p.y < ly + (j : Int)) ∧ lx ≤ p.x ∧ p.x < lx + (W : Int)
  | 0 => by simp [rectP]; omega
  | j + 1 => by
    simp only [rectP]
    rw [List.mem_append, rectP_mem, rowP_mem]
    constructor
    · rintro (h | h)
      · exact ⟨⟨h.1.1, by omega⟩, h.2⟩
      · exact ⟨⟨by omega, by omega⟩, h.2⟩
    · rintro ⟨⟨h1, h2⟩, h3⟩
      by_cases h : p.y = ly + (j : Int)
      · exact .inr ⟨h, h3⟩
      · exact .inl ⟨⟨h1, by omega⟩, h3⟩
theorem rowP_sorted (lx y : Int) (i : Nat) : SortS (rowP lx y i) := by
  unfold SortS rowP
  rw [List.pairwise_map]
  refine List.Pairwise.imp ?_ (List.pairwise_lt_range (n := i))
  intro a b hab
  rw [ltP_iff]
  exact .inr ⟨rfl, by show lx + (a : Int) < lx + (b : Int); omega⟩
theorem rectP_sorted (lx ly : Int) (W : Nat) : ∀ j, SortS (rectP lx ly W j)
  | 0 => List.Pairwise.nil
  | j + 1 => by
    simp only [rectP]
    unfold SortS
    rw [List.pairwise_append]
    refine ⟨rectP_sorted lx ly W j, rowP_sorted _ _ _, fun a ha b hb => ?_⟩
    rw [rectP_mem] at ha
    rw [rowP_mem] at hb
    rw [ltP_iff]
    exact .inl (by omega)
theorem Shp.of_sorted {L : List Pt} (h : SortS L) (hp : ∀ p ∈ L, (-60 ≤ p.x ∧ p.x ≤ 60) ∧ (-60 ≤ p.y ∧ p.y ≤ 60)) : Shp L :=
  ⟨fun k e he => hp e (List.mem_of_getElem? he), fun i j d e hij hd he => h.get hij hd he⟩
theorem SortS.filter {L : List Pt} (h : SortS L) (f : Pt → Bool) : SortS (L.filter f) := List.Pairwise.sublist List.filter_sublist h
/-- no part is empty -/
theorem partsP_pos {ps : List Pt} {l : List Pt} (h : l ∈ partsP ps) : 0 < l.length := by
  obtain ⟨i, hi⟩ := List.mem_iff_getElem?.1 h
  unfold partsP partsN namesL at hi
  rw [List.map_map, List.getElem?_map] at hi
  have hil : i < (allP (nbP ps) ps.length ps.length).2.length := by
    apply Classical.byContradiction
    intro hh
    rw [List.getElem?_eq_none (by simpa using hh)] at hi
    cases hi
  rw [List.getElem?_range hil] at hi
  simp only [Option.map_some, Option.some.injEq] at hi
  subst hi
  obtain ⟨q, hq⟩ : ∃ q, (allP (nbP ps) ps.length ps.length).2[i]? = some q := ⟨_, List.getElem?_eq_getElem hil⟩
  obtain ⟨h1, h2, h3⟩ := allP_mem _ i q hq
  have hne : ∀ k, ∀ l ∈ (allP (nbP ps) ps.length k).2, l ≠ [] := by
    intro k
    induction k with
    | zero => intro l hl; simp [allP] at hl
    | succ k ih =>
      intro l hl
      simp only [allP] at hl
      split at hl
      · rcases List.mem_append.1 hl with hl | hl
        · exact ih l hl
        · simp at hl
          subst hl
          obtain ⟨m, hm⟩ := visS_more (nb := nbP ps) (c := (allP (nbP ps) ps.length k).2.length + 1) (st := ([k], (allP (nbP ps) ps.length k).1.set k ((allP (nbP ps) ps.length k).2.length + 1))) ps.length
          rw [hm]
          simp
      · exact ih l hl
  cases hq' : q with
  | nil => exact absurd hq' (hne _ q (List.mem_of_getElem? hq))
  | cons v q2 =>
    have hv : v ∈ q := by rw [hq']; simp
    have hm := nameL_mem.2 ⟨h2 v hv, (h3 v).1 hv⟩
    show 0 < (ptsAt ps (nameL _ i ps.length)).length
    rw [ptsAt_len]
    exact List.length_pos_of_mem hm
theorem partsP_mem {ps : List Pt} {l : List Pt} (h : l ∈ partsP ps) : (∀ p ∈ l, p ∈ ps) ∧ l.length ≤ ps.length := by
  obtain ⟨i, hi⟩ := List.mem_iff_getElem?.1 h
  unfold partsP at hi
  rw [List.getElem?_map, Option.map_eq_some_iff] at hi
  obtain ⟨q, hq, rfl⟩ := hi
  have hlt := partsN_lt hq
  refine ⟨fun p hp => ?_, by rw [ptsAt_len]; exact partsN_each hq⟩
  unfold ptsAt at hp
  obtain ⟨v, hv, rfl⟩ := List.mem_map.1 hp
  obtain ⟨e, he⟩ : ∃ e, ps[v]? = some e := ⟨_, List.getElem?_eq_getElem (hlt v hv)⟩
  rw [ptAt_of he]
  exact List.mem_of_getElem? he
end Go.Proofs.Ytkfjojpohcieeaa
/- Plain: the holes of a shape. -/


namespace Go.Proofs.Ytkfjojpohcieeaa
open Go.RowKit
theorem ptA_of {ps : List Pt} {k : Nat} {e : Pt} (h : ps[k]? = some e) : ptA ps k = e := by unfold ptA; rw [h]; rfl
/-- the box holds the points, and each side of it has one -/
theorem bxN_in (ps : List Pt) : ∀ (j k : Nat), k < j ∨ k = 0 → ((bxN ps j).lx ≤ (ptA ps k).x ∧ (ptA ps k).x ≤ (bxN ps j).hx) ∧ (bxN ps j).ly ≤ (ptA ps k).y ∧ (ptA ps k).y ≤ (bxN ps j).hy
  | 0, k, h => by
    obtain rfl : k = 0 := by omega
    simp [bxN]
  | j + 1, k, h => by
    have ih := bxN_in ps j
    simp only [bxN]
    rcases Nat.lt_or_ge k j with h1 | h1
    · have := ih k (.inl h1)
      unfold mn mx
      refine ⟨⟨?_, ?_⟩, ?_, ?_⟩ <;> (split <;> omega)
    · rcases h with h | rfl
      · obtain rfl : k = j := by omega
        unfold mn mx
        refine ⟨⟨?_, ?_⟩, ?_, ?_⟩ <;> (split <;> omega)
      · have := ih 0 (.inr rfl)
        unfold mn mx
        refine ⟨⟨?_, ?_⟩, ?_, ?_⟩ <;> (split <;> omega)
theorem bxN_at (ps : List Pt) : ∀ (j : Nat), (∃ k, (k < j ∨ k = 0) ∧ (ptA ps k).x = (bxN ps j).lx) ∧ (∃ k, (k < j ∨ k = 0) ∧ (ptA ps k).x = (bxN ps j).hx) ∧ (∃ k, (k < j ∨ k = 0) ∧ (ptA ps k).y = (bxN ps j).ly) ∧ (∃ k, (k < j ∨ k = 0) ∧ (ptA ps k).y = (bxN ps j).hy)
  | 0 => ⟨⟨0, .inr rfl, rfl⟩, ⟨0, .inr rfl, rfl⟩, ⟨0, .inr rfl, rfl⟩, ⟨0, .inr rfl, rfl⟩⟩
  | j + 1 => by
    obtain ⟨⟨a, a1, a2⟩, ⟨b, b1, b2⟩, ⟨c, c1, c2⟩, ⟨d, d1, d2⟩⟩ := bxN_at ps j
    simp only [bxN]
    unfold mn mx
    refine ⟨?_, ?_, ?_, ?_⟩
    · split
      · exact ⟨j, .inl (by omega), rfl⟩
      · exact ⟨a, by omega, a2⟩
    · split
      · exact ⟨j, .inl (by omega), rfl⟩
      · exact ⟨b, by omega, b2⟩
    · split
      · exact ⟨j, .inl (by omega), rfl⟩
      · exact ⟨c, by omega, c2⟩
    · split
      · exact ⟨j, .inl (by omega), rfl⟩
      · exact ⟨d, by omega, d2⟩
/-- the least rectangle of a shape -/
def boxB (ps : List Pt) : Bx := bxN ps ps.length
theorem boxB_in {ps : List Pt} {p : Pt} (h : p ∈ ps) : ((boxB ps).lx ≤ p.x ∧ p.x ≤ (boxB ps).hx) ∧ (boxB ps).ly ≤ p.y ∧ p.y ≤ (boxB ps).hy := by
  obtain ⟨k, hk⟩ := List.mem_iff_getElem?.1 h
  have := bxN_in ps ps.length k (.inl (lt_of_get hk))
  rw [ptA_of hk] at this
  exact this
theorem boxB_rng {ps : List Pt} (hS : Shp ps) (hn : 0 < ps.length) : (-60 ≤ (boxB ps).lx ∧ (boxB ps).lx ≤ (boxB ps).hx ∧ (boxB ps).hx ≤ 60) ∧ (-60 ≤ (boxB ps).ly ∧ (boxB ps).ly ≤ (boxB ps).hy ∧ (boxB ps).hy ≤ 60) := by
  have hp : ∀ k, k < ps.length ∨ k = 0 → (-60 ≤ (ptA ps k).x ∧ (ptA ps k).x ≤ 60) ∧ (-60 ≤ (ptA ps k).y ∧ (ptA ps k).y ≤ 60) := fun k hk => by
    obtain ⟨e, he⟩ : ∃ e, ps[k]? = some e := ⟨_, List.getElem?_eq_getElem (by omega)⟩
    rw [ptA_of he]
    exact hS.pt k e he
  obtain ⟨⟨a, a1, a2⟩, ⟨b, b1, b2⟩, ⟨c, c1, c2⟩, ⟨d, d1, d2⟩⟩ := bxN_at ps ps.length
  have h1 := hp a a1
  have h2 := hp b b1
  have h3 := hp c c1
  have h4 := hp d d1
  have h5 := bxN_in ps ps.length 0 (.inr rfl)
  unfold boxB
  omega
def wdB (ps : List Pt) : Nat := ((boxB ps).hx + 1 - (boxB ps).lx).toNat
def htB (ps : List Pt) : Nat := ((boxB ps).hy + 1 - (boxB ps).ly).toNat
/-- all points of the rectangle -/
def rectB (ps : List Pt) : List Pt := rectP (boxB ps).lx (boxB ps).ly (wdB ps) (htB ps)
/-- those that are not in the shape -/
def freeB (ps : List Pt) : List Pt := (rectB ps).filter fun p => !decide (p ∈ ps)
/-- on the rectangle's edge -/
def edgeB (ps : List Pt) (p : Pt) : Bool := p.x == (boxB ps).lx || p.x == (boxB ps).hx || p.y == (boxB ps).ly || p.y == (boxB ps).hy
def holesB (ps : List Pt) : List (List Pt) := (partsP (freeB ps)).filter fun l => !(l.any (edgeB ps))
section
variable {ps : List Pt} (hS : Shp ps) (hn : 0 < ps.length)
include hS hn
theorem wdB_eq : (boxB ps).hx + 1 = (boxB ps).lx + (wdB ps : Int) ∧ (boxB ps).hy + 1 = (boxB ps).ly + (htB ps : Int) ∧ 1 ≤ wdB ps ∧ wdB ps ≤ 121 ∧ 1 ≤ htB ps ∧ htB ps ≤ 121 := by
  have := boxB_rng hS hn
  unfold wdB htB
  omega
theorem rectB_mem {p : Pt} : p ∈ rectB ps ↔ ((boxB ps).lx ≤ p.x ∧ p.x ≤ (boxB ps).hx) ∧ (boxB ps).ly ≤ p.y ∧ p.y ≤ (boxB ps).hy := by
  have := wdB_eq hS hn
  unfold rectB
  rw [rectP_mem]
  omega
theorem rectB_len : (rectB ps).length = htB ps * wdB ps ∧ (rectB ps).length ≤ 14641 ∧ 0 < (rectB ps).length := by
  obtain ⟨_, _, h1, h2, h3, h4⟩ := wdB_eq hS hn
  have h5 : (rectB ps).length = htB ps * wdB ps := rectP_len _ _ _ _
  exact ⟨h5, by rw [h5]; exact Nat.le_trans (Nat.mul_le_mul h4 h2) (by decide), by rw [h5]; exact Nat.mul_pos h3 h1⟩
theorem freeB_shp : Shp (freeB ps) := by
  refine Shp.of_sorted ((rectP_sorted _ _ _ _).filter _) (fun p hp => ?_)
  have := boxB_rng hS hn
  have h2 := (rectB_mem hS hn).1 (List.mem_filter.1 hp).1
  omega
theorem freeB_len : (freeB ps).length ≤ 14641 := Nat.le_trans (List.length_filter_le _ _) (rectB_len hS hn).2.1
/-- the reference's test of a part -/
theorem edge_box {l : List Pt} (hl : l ∈ partsP (freeB ps)) : (!(l.any (edgeB ps))) = decide (((boxB ps).lx < (bxN l l.length).lx ∧ (boxB ps).ly < (bxN l l.length).ly) ∧ (bxN l l.length).hx < (boxB ps).hx ∧ (bxN l l.length).hy < (boxB ps).hy) := by
  have hpos := partsP_pos hl
  have hmem : ∀ k, k < l.length ∨ k = 0 → ((boxB ps).lx ≤ (ptA l k).x ∧ (ptA l k).x ≤ (boxB ps).hx) ∧ (boxB ps).ly ≤ (ptA l k).y ∧ (ptA l k).y ≤ (boxB ps).hy := fun k hk => by
    obtain ⟨e, he⟩ : ∃ e, l[k]? = some e := ⟨_, List.getElem?_eq_getElem (by omega)⟩
    rw [ptA_of he]
    exact (rectB_mem hS hn).1 (List.mem_filter.1 ((partsP_mem hl).1 e (List.mem_of_getElem? he))).1
  obtain ⟨⟨a, a1, a2⟩, ⟨b, b1, b2⟩, ⟨c, c1, c2⟩, ⟨d, d1, d2⟩⟩ := bxN_at l l.length
  have hin := bxN_in l l.length
  cases hany : l.any (edgeB ps)
  · rw [List.any_eq_false] at hany
    have hne : ∀ k, k < l.length ∨ k = 0 → (ptA l k).x ≠ (boxB ps).lx ∧ (ptA l k).x ≠ (boxB ps).hx ∧ (ptA l k).y ≠ (boxB ps).ly ∧ (ptA l k).y ≠ (boxB ps).hy := fun k hk => by
      obtain ⟨e, he⟩ : ∃ e, l[k]? = some e := ⟨_, List.getElem?_eq_getElem (by omega)⟩
      have := hany e (List.mem_of_getElem? he)
      unfold edgeB at this
      simp at this
      rw [ptA_of he]
      exact ⟨this.1.1.1, this.1.1.2, this.1.2, this.2⟩
    have n1 := hne a a1
    have n2 := hne b b1
    have n3 := hne c c1
    have n4 := hne d d1
    have m1 := hmem a a1
    have m2 := hmem b b1
    have m3 := hmem c c1
    have m4 := hmem d d1
    exact (decide_eq_true (by omega)).symm
  · rw [List.any_eq_true] at hany
    obtain ⟨e, he, hee⟩ := hany
    obtain ⟨k, hk⟩ := List.mem_iff_getElem?.1 he
    have h1 := hin k (.inl (lt_of_get hk))
    rw [ptA_of hk] at h1
    unfold edgeB at hee
    simp only [Bool.or_eq_true, beq_iff_eq] at hee
    exact (decide_eq_false (by omega)).symm
end
theorem holesB_few {ps : List Pt} (hS : Shp ps) (hn : 0 < ps.length) : (holesB ps).length ≤ 14641 ∧ ∀ l ∈ holesB ps, l.length ≤ 14641 := by
  have h1 := freeB_len hS hn
  refine ⟨Nat.le_trans (List.length_filter_le _ _) (Nat.le_trans (partsP_len _) h1), fun l hl => ?_⟩
  exact Nat.le_trans (partsP_mem (List.mem_filter.1 hl).1).2 h1
end Go.Proofs.Ytkfjojpohcieeaa
/- Walks: a row of points from which those are struck out that a closure names. -/



namespace Go.Proofs.Ytkfjojpohcieeaa
open Go.RowKit Go.Shelf
attribute [local go_sem] BelowBy.cell BelowBy.cell_drew stillUpon givesUpon BelowBy.cell_drew2 BelowBy.cell_drew3

/-- nothing that was there has turned, but block g -/
def Gb (g : Nat) (w w' : World) : Prop := w.grownBy w' (some g)
section
variable {g : Nat} {w w' w'' : World}
theorem Gb.refl (g : Nat) (w : World) : Gb g w w := ⟨rfl, rfl, rfl, Nat.le_refl _, fun _ _ _ => rfl⟩
theorem Gb.size (h : Gb g w w') : w.heap.size ≤ w'.heap.size := World.grownBy.size h
theorem Gb.below (h : Gb g w w') (hb : Below w'.heap.size w' w'') : Gb g w w'' := by
  have h2 := grown_below hb none
  exact ⟨h2.os.trans h.os, h2.tape.trans h.tape, h2.output.trans h.output, Nat.le_trans (World.grownBy.size h) h2.size, fun k hk hne => (hb.block k (Nat.lt_of_lt_of_le hk (World.grownBy.size h))).trans (h.block k hk hne)⟩
theorem Gb.of_below (hb : Below w.heap.size w w') : Gb g w w' := (Gb.refl g w).below hb
theorem Gb.trans (h : Gb g w w') (h2 : Gb g w' w'') : Gb g w w'' :=
  ⟨h2.os.trans h.os, h2.tape.trans h.tape, h2.output.trans h.output, Nat.le_trans (World.grownBy.size h) (World.grownBy.size h2), fun k hk hne => (h2.block k (Nat.lt_of_lt_of_le hk (World.grownBy.size h)) hne).trans (h.block k hk hne)⟩
theorem Gb.set (h : Gb g w w') (o : Nat) (u : Value) : Gb g w (w'.setCell ⟨g, o, none⟩ u) := h.trans (gby_setCell w' g o u)
theorem Gb.cell (h : Gb g w w') {b o : Nat} (hb : b < w.heap.size) (hne : b ≠ g) : w'.cell? ⟨b, o, none⟩ = w.cell? ⟨b, o, none⟩ := World.cell?_of_block (a := ⟨b, o, none⟩) (h.block b hb (fun e => hne (by injection e)))
theorem Gb.toBelow {base : Nat} (h : Gb g w w') (hb : base ≤ w.heap.size) (hg : base ≤ g) : Below base w w' := (Below.refl base w).grown h hb (fun q e => by injection e with e; omega)
theorem Gb.sets (h : Gb g w w') (o : Nat) : ∀ (vs : List Value), Gb g w (w'.setCells g o vs)
  | vs => by
    have : ∀ (vs : List Value) (o : Nat) (W : World), Gb g w W → Gb g w (W.setCells g o vs) := by
      intro vs
      induction vs with
      | nil => intro o W h; exact h
      | cons v r ih => intro o W h; exact ih (o + 1) _ (h.set o v)
    exact this vs o w' h
end
/-- a closure that tells of each of these points whether it is named -/
def TellsP (g : Nat) (w : World) (f : FuncId) (caps : Array Value) (del : Pt → Bool) (bs : List Pt) : Prop :=
  ∀ W e, Gb g w W → e ∈ bs → Calls Try.prog f (#[.agg #[.int .i64 e.x, .int .i64 e.y]] ++ caps) W fun e' w' => e' = .returned (.bool (del e)) ∧ Below W.heap.size W w'
def FirstN (w : World) (n : Nat) (del : Nat → Bool) (e : Ending) (w' : World) : Prop :=
  ((e = .returned (.int .i64 (-1)) ∧ ∀ j, j < n → del j = false) ∨ ∃ k : Nat, k < n ∧ e = .returned (.int .i64 (k : Int)) ∧ del k = true ∧ ∀ j, j < k → del j = false) ∧ Below w.heap.size w w'
def delAtG {α : Type} (del : α → Bool) (bs : List α) (j : Nat) : Bool := match bs[j]? with
  | none => false
  | some b => del b
theorem delAtG_eq {α : Type} {del : α → Bool} {bs : List α} {j : Nat} {b : α} (h : bs[j]? = some b) : delAtG del bs j = del b := by unfold delAtG; rw [h]
set_option maxHeartbeats 1000000 in
theorem IndexFuncG_any (g : Nat) (f : FuncId) (caps : Array Value) (eg : ∀ args w, (callFunc f args).run Try.prog w = .ok (.enter f args) w) (del : Pt → Bool) (A : Option Addr) (n c : Nat) (bs : List Pt) (w : World) (hB : RdSl 2 RPt w A n bs) (hn : n ≤ 100000) (hC : TellsP g w f caps del bs) :
    Calls Try.prog 71 #[.slice A n c, .func (.func f) #[] caps] w (FirstN w n (delAtG del bs)) := by
  have hCH := Lib.hid hC
  clear hC
  go_enter Try.func71, Try.ntmps71
  go_wp2
  go_loopg [8] n (fun r x wr => ∃ k : Nat, k + r = n ∧ x = .int .i64 (k : Int) ∧ Hid (∀ j, j < k → delAtG del bs j = false) ∧ Below w.heap.size w wr)
  case atStart => exact ⟨0, by omega, rfl, Lib.hid (fun j hj => by omega), bl_refl _⟩
  case round =>
    obtain ⟨k, hk, rfl, hno, hbw⟩ := hrel
    have hB' := hB.below RPt.stable hbw
    by_cases hkn : k < n
    · obtain ⟨b, o, rfl, hb, hc⟩ := hB'.ptr (by omega)
      obtain ⟨e, he⟩ := hB.get hkn
      obtain ⟨c0, c1⟩ := hc k e he
      have hd := delAtG_eq (del := del) he
      have hem := Lib.hid (List.mem_of_getElem? he)
      cases hv : del e
      · have hdH := Lib.hid (hd.trans hv)
        have hvH := Lib.hid hv
        clear hc he hB hB' hd hv
        go_wp2_with fail
        refine (hCH.out _ e (Gb.of_below hbw) hem.out).mono ?_
        rw [hvH.out]
        rintro e' w1 ⟨rfl, hb1⟩
        go_wp2
        go_roundg (n - (k + 1))
        case measure => omega
        case rel => exact ⟨k + 1, by omega, by go_num, Lib.hid (fun j hj => by
          rcases Nat.lt_succ_iff_lt_or_eq.1 hj with hj | rfl
          · exact hno.out j hj
          · exact hdH.out), bl_tr hbw hb1⟩
      · have hdH := Lib.hid (hd.trans hv)
        have hvH := Lib.hid hv
        clear hc he hB hB' hd hv
        go_wp2_with fail
        refine (hCH.out _ e (Gb.of_below hbw) hem.out).mono ?_
        rw [hvH.out]
        rintro e' w1 ⟨rfl, hb1⟩
        go_wp2
        go_ret
        exact ⟨Or.inr ⟨k, hkn, rfl, hdH.out, hno.out⟩, bl_tr hbw hb1⟩
    · obtain rfl : k = n := by omega
      clear hB'
      go_wp2
      go_ret
      exact ⟨Or.inl ⟨rfl, hno.out⟩, hbw⟩
theorem run_clear_rowsQ {P : Program} (w : World) (t e ty : TypeId) (z : Value) (ht : P.underlying t = some (.slice e)) (hv : ∀ w, (zeroValue e).run P w = .ok z w) (b o n c : Nat) (hn : 0 < n)
    (hc : ∀ j, j < n * z.cells.size → (w.cell? ⟨b, o + j, none⟩).isSome = true) (hf : ∀ j, j < n * z.cells.size → w.frozen? ⟨b, o + j, none⟩ = false) (h1 : ∀ u ∈ (Builtin.zeroCells z.cells n).toList, u.oneCell' = true) :
    (Builtin.clear_ #[t] ty #[.slice (some ⟨b, o, none⟩) n c]).run P w = .ok (.tuple #[]) (w.setCells b o (Builtin.zeroCells z.cells n).toList) := by
  have hlen : (Builtin.zeroCells z.cells n).toList.length = n * z.cells.size := by simp [size_zeroCells]
  have hst := run_storeCells_cells (P := P) b o (Builtin.zeroCells z.cells n).toList 0 w (by rw [hlen]; simpa using hc) (by rw [hlen]; simpa using hf) h1
  simp only [Nat.add_zero] at hst
  obtain ⟨m, rfl⟩ : ∃ m, n = m + 1 := ⟨n - 1, by omega⟩
  simp [Builtin.clear_, run_underlying ht, hv, hst]
theorem zero2Q (n : Nat) : ∀ u ∈ (Builtin.zeroCells #[Value.int .i64 0, .int .i64 0] n).toList, u.oneCell' = true := by
  intro u hu
  simp only [Builtin.zeroCells, Array.toList_map, List.mem_map] at hu
  obtain ⟨i, _, rfl⟩ := hu
  have : i % 2 = 0 ∨ i % 2 = 1 := by omega
  rcases this with h | h <;> simp [h] <;> rfl
def keepG {α : Type} (del : α → Bool) (bs : List α) (k : Nat) : List α := (bs.take k).filter fun b => !del b
section
variable {α : Type} {del : α → Bool} {bs : List α} {k : Nat}
theorem keepG_succ_yes {e : α} (he : bs[k]? = some e) (h : del e = false) : keepG del bs (k + 1) = keepG del bs k ++ [e] := by
  obtain ⟨hk, rfl⟩ := List.getElem?_eq_some_iff.1 he
  unfold keepG; rw [List.take_succ_eq_append_getElem hk, List.filter_append]; simp [h]
theorem keepG_succ_no {e : α} (he : bs[k]? = some e) (h : del e = true) : keepG del bs (k + 1) = keepG del bs k := by
  obtain ⟨hk, rfl⟩ := List.getElem?_eq_some_iff.1 he
  unfold keepG; rw [List.take_succ_eq_append_getElem hk, List.filter_append]; simp [h]
theorem keepG_len (del : α → Bool) (bs : List α) (k : Nat) : (keepG del bs k).length ≤ k := Nat.le_trans (List.length_filter_le _ _) (List.length_take_le _ _)
theorem keepG_all (h : ∀ j, j < k → delAtG del bs j = false) : keepG del bs k = bs.take k := by
  unfold keepG
  rw [List.filter_eq_self]
  intro b hb
  obtain ⟨j, hj, rfl⟩ := List.mem_iff_getElem.1 hb
  have hj' : j < k ∧ j < bs.length := by simp at hj; omega
  have := h j hj'.1
  rw [delAtG_eq (List.getElem?_eq_getElem hj'.2)] at this
  simpa using this
end
/-- what is left of a row of points -/
def DelPt (base g : Nat) (w : World) (l : List Pt) (e : Ending) (w' : World) : Prop := ∃ c, e = .returned (.slice (some ⟨g, 0, none⟩) l.length c) ∧ w'.ownsRow base 52 2 (.slice (some ⟨g, 0, none⟩) l.length c) l.length (ptCells l) ∧ Gb g w w'
theorem DelPt.of {base g n : Nat} {w w' : World} {l : List Pt} {c : Nat} (hn : n = l.length) (h : w'.ownsRow base 52 2 (.slice (some ⟨g, 0, none⟩) n c) n (ptCells l)) (hb : Gb g w w') : DelPt base g w l (.returned (.slice (some ⟨g, 0, none⟩) n c)) w' := by
  subst hn; exact ⟨c, rfl, h, hb⟩
theorem owns_of_rowQ {w : World} {g T N base cap size n : Nat} {f : Nat → Value} {xs : List Value} (h : w.rowIs g T N f) (hN : N = cap * size) (hb : base ≤ g) (hn : n ≤ cap) (hm : cap ≤ maxLen) (hl : xs.length = n * size) (hx : ∀ j u, xs[j]? = some u → w.cell? ⟨g, j, none⟩ = some u) : w.ownsRow base T size (.slice (some ⟨g, 0, none⟩) n cap) n xs := by
  obtain ⟨cur, hh, hs, hi⟩ := h
  refine ⟨hl, .inr ⟨g, cap, cur, rfl, hb, hh, hn, hm, hs.trans hN, ?_⟩⟩
  apply List.ext_getElem?
  intro j
  by_cases hj : j < n * size
  · obtain ⟨u, hu⟩ : ∃ u, xs[j]? = some u := ⟨_, List.getElem?_eq_getElem (by omega)⟩
    have := hx j u hu
    simp only [World.cell?, hh] at this
    rw [List.getElem?_take_of_lt hj, Array.getElem?_toList, hu]
    simpa using this
  · rw [List.getElem?_take_eq_none (by omega), List.getElem?_eq_none (by omega)]
set_option maxRecDepth 100000 in
set_option maxHeartbeats 4000000 in
theorem DeleteFuncG_any (base g cap : Nat) (f : FuncId) (caps : Array Value) (eg : ∀ args w, (callFunc f args).run Try.prog w = .ok (.enter f args) w) (del : Pt → Bool) (bs : List Pt) (w : World) (hrow : w.ownsRow base 52 2 (.slice (some ⟨g, 0, none⟩) bs.length cap) bs.length (ptCells bs)) (hn : bs.length ≤ 100000) (hC : TellsP g w f caps del bs) :
    Calls Try.prog 42 #[.slice (some ⟨g, 0, none⟩) bs.length cap, .func (.func f) #[] caps] w (DelPt base g w (keepG del bs bs.length)) := by
  have rdb : RdSl 2 RPt w (some ⟨g, 0, none⟩) bs.length bs := by
    obtain ⟨A, c, e, hr⟩ := rdPt_of_row hrow
    injection e with e1
    subst e1
    exact hr
  obtain ⟨n, hnn⟩ : ∃ n, bs.length = n := ⟨_, rfl⟩
  rw [hnn] at hn rdb hrow
  rw [hnn]
  have hnnH := Lib.hid hnn
  have hCH := Lib.hid hC
  clear hnn hC
  go_enter Try.func42, Try.ntmps42
  go_wp2_with fail
  refine (IndexFuncG_any g f caps eg del _ n cap bs _ rdb hn hCH.out).mono ?_
  rintro e w1 ⟨(⟨rfl, hall⟩ | ⟨k, hkn, rfl, hdk, hall⟩), hb1⟩
  · have hallH := Lib.hid hall
    have rdH := Lib.hid (ownsRow_below hrow hb1)
    have hK := keepG_all (del := del) (bs := bs) (k := n) hall
    rw [List.take_of_length_le (by rw [hnnH.out]; exact Nat.le_refl _)] at hK
    have hKH := Lib.hid hK
    have hb1H := Lib.hid hb1
    clear hall rdb hrow hK hb1
    go_wp2
    go_ret
    rw [hKH.out]
    exact DelPt.of hnnH.out.symm rdH.out (Gb.of_below hb1H.out)
  · have hk1 : ¬ ((k : Int) = -1) := by omega
    have hk1' : ((k : Int) == -1) = false := by simp
    rcases hrow.2 with ⟨h0, h0'⟩ | ⟨g', cap', cur, hv, hb, hh, hnc, hm, hs, ht⟩
    · omega
    obtain ⟨rfl, rfl⟩ : g = g' ∧ cap = cap' := by injection hv with a1 a2 a3; injection a1 with a1; injection a1 with a1; exact ⟨a1, a3⟩
    have hgl : g < w.heap.size := (Array.getElem?_eq_some_iff.1 hh).1
    have hh1 := (hb1.block g hgl).trans hh
    have hrow1 : w1.rowIs g 52 (cap * 2) (fun i => cur.getD i undef) := by
      refine ⟨cur, hh1, hs, fun i hi => ?_⟩
      have : i < cur.size := by omega
      simp [this]
    have hget : ∀ q b, bs[q]? = some b → q < n → cur.getD (q * 2) undef = .int .i64 b.x ∧ cur.getD (q * 2 + 1) undef = .int .i64 b.y := by
      intro q b hq hqn
      obtain ⟨x0, x1⟩ := ptCells_get bs q b hq
      rw [← ht, List.getElem?_take_of_lt (by omega)] at x0 x1
      simp only [Array.getElem?_toList] at x0 x1
      simp [Array.getD_eq_getD_getElem?, x0, x1]
    have hkeep0 := keepG_all (del := del) (bs := bs) (k := k) hall
    obtain ⟨ek, hek⟩ : ∃ e, bs[k]? = some e := ⟨_, List.getElem?_eq_getElem (by rw [hnnH.out]; exact hkn)⟩
    have hkeep1 := keepG_succ_no (del := del) hek (by rw [← delAtG_eq (del := del) hek]; exact hdk)
    have hkl : k = (keepG del bs (k + 1)).length := by rw [hkeep1, hkeep0]; simp; rw [hnnH.out]; omega
    obtain ⟨F0, hF0⟩ : ∃ F : Nat → Pt, ∀ q b, bs[q]? = some b → F q = b := ⟨fun q => match bs[q]? with | some b => b | none => ⟨0, 0⟩, fun q b h => by simp only [h]⟩
    have hst : Hid (k = (keepG del bs (k + 1)).length ∧ (∀ q b, (keepG del bs (k + 1))[q]? = some b → F0 q = b) ∧ (∀ q b, k + 1 ≤ q → bs[q]? = some b → F0 q = b)) := by
      refine Lib.hid ⟨hkl, fun q b hq => ?_, fun q b _ hq => hF0 q b hq⟩
      rw [hkeep1, hkeep0, List.getElem?_take] at hq
      split at hq
      · exact hF0 q b hq
      · cases hq
    have hf0 : Hid (∀ q, q < n → (fun i => cur.getD i undef) (q * 2) = .int .i64 (F0 q).x ∧ (fun i => cur.getD i undef) (q * 2 + 1) = .int .i64 (F0 q).y) := Lib.hid fun q hq => by
      obtain ⟨b, hqb⟩ : ∃ b, bs[q]? = some b := ⟨_, List.getElem?_eq_getElem (by rw [hnnH.out]; exact hq)⟩
      rw [hF0 q b hqb]
      exact hget q b hqb hq
    have hB1 := Lib.hid (Gb.of_below (g := g) hb1)
    have hbg := hb
    have hmO := Lib.hid hm
    clear hkl hF0 hget hkeep0 hkeep1 hek hall rdb hrow hh hh1 hs ht hv hb1 hdk
    go_wp2
    go_loopg [5, 6] (n - (k + 1)) (fun r x y wr => ∃ (i j : Nat) (F : Nat → Pt) (f' : Nat → Value), j + r = n ∧ i < j ∧ x = .int .i64 (i : Int) ∧ y = .int .i64 (j : Int) ∧ Hid (i = (keepG del bs j).length ∧ (∀ q b, (keepG del bs j)[q]? = some b → F q = b) ∧ (∀ q b, j ≤ q → bs[q]? = some b → F q = b)) ∧ wr.rowIs g 52 (cap * 2) f' ∧ Hid (∀ q, q < n → f' (q * 2) = .int .i64 (F q).x ∧ f' (q * 2 + 1) = .int .i64 (F q).y) ∧ Hid (Gb g w wr))
    case atStart => exact ⟨k, k + 1, F0, _, by omega, by omega, rfl, by go_num, hst, hrow1, hf0, hB1⟩
    case round =>
      obtain ⟨i, j, F, f', hj, hij, rfl, rfl, hst', hrw, hf, hbw⟩ := hrel
      clear hst hf0 hrow1
      have hgw : g < wr.heap.size := hrw.lt
      by_cases hlt : j < n
      · obtain ⟨e, he⟩ : ∃ e, bs[j]? = some e := ⟨_, List.getElem?_eq_getElem (by rw [hnnH.out]; exact hlt)⟩
        have hFj := hst'.out.2.2 j e (Nat.le_refl _) he
        obtain ⟨v0, v1⟩ := hf.out j hlt
        rw [hFj] at v0 v1
        have c0 := hrw.cell (i := j * 2) (by omega)
        have c1 := hrw.cell (i := j * 2 + 1) (by omega)
        rw [v0] at c0
        rw [v1] at c1
        have heH := Lib.hid he
        have hrwH := Lib.hid hrw
        clear v0 v1 hFj he hrw
        cases hcd : del e
        · have hnx := Lib.hid (keepG_succ_yes heH.out hcd)
          have hcdH := Lib.hid hcd
          clear hcd
          go_wp2_with fail
          refine (hCH.out _ e (hbw.out.below (by exact bel_)) (List.mem_of_getElem? heH.out)).mono ?_
          rw [hcdH.out]
          rintro e' w2 ⟨rfl, hb2⟩
          have hrw2 := hrwH.out.of_block ((hb2.block g (by simp; omega)).trans (Below.heap_alloc _ _ _ hgw))
          have d0 := hrw2.cell (i := i * 2) (by omega)
          have d1 := hrw2.cell (i := i * 2 + 1) (by omega)
          have k0 := hrw2.frozen (i * 2)
          have k1 := hrw2.frozen (i * 2 + 1)
          have x0 : w2.cell? ⟨wr.heap.size, 0, none⟩ = some (.int .i64 e.x) := (hb2.cell (p := ⟨wr.heap.size, 0, none⟩) (by simp)).trans (by go_simp)
          have x1 : w2.cell? ⟨wr.heap.size, 1, none⟩ = some (.int .i64 e.y) := (hb2.cell (p := ⟨wr.heap.size, 1, none⟩) (by simp)).trans (by go_simp)
          have hB2H := Lib.hid (hbw.out.below (bl_tr (bl_al (bl_refl _) _) hb2))
          have hs2 := hb2.size
          simp at hs2
          have hrw2H := Lib.hid hrw2
          have hin : i < n := by omega
          clear c0 c1 hb2 hrw2
          go_wp2
          go_roundg (n - (j + 1))
          case measure => omega
          case rel => exact ⟨i + 1, j + 1, fun q => if q = i then e else F q, _, by omega, by omega, by go_num, by go_num, Lib.hid ⟨by
              rw [hnx.out, List.length_append, ← hst'.out.1]; rfl, fun q b hq => by
              rw [hnx.out] at hq
              have hil := hst'.out.1
              rcases Nat.lt_or_ge q i with hqi | hqi
              · rw [List.getElem?_append_left (by omega)] at hq
                show (if q = i then e else F q) = b
                rw [if_neg (by omega)]; exact hst'.out.2.1 q b hq
              · rw [List.getElem?_append_right (by omega)] at hq
                have : q - (keepG del bs j).length = 0 := by
                  rcases Nat.eq_zero_or_pos (q - (keepG del bs j).length) with h0 | h0
                  · exact h0
                  · rw [List.getElem?_eq_none (by simp; omega)] at hq; cases hq
                rw [this] at hq
                show (if q = i then e else F q) = b
                rw [if_pos (by omega)]; simpa using hq, fun q b hq hb => by
              show (if q = i then e else F q) = b
              rw [if_neg (by omega)]; exact hst'.out.2.2 q b (by omega) hb⟩, (hrw2H.out.set (i * 2) _).set (i * 2 + 1) _, Lib.hid (fun q hq => by
              obtain ⟨u0, u1⟩ := hf.out q hq
              by_cases hqi : q = i
              · subst hqi
                simp
              · rw [if_neg (by omega), if_neg (by omega), if_neg (by omega), if_neg (by omega)]
                show f' (q * 2) = Value.int .i64 (if q = i then e else F q).x ∧ f' (q * 2 + 1) = Value.int .i64 (if q = i then e else F q).y
                rw [if_neg hqi]
                exact ⟨u0, u1⟩), Lib.hid ((hB2H.out.set (i * 2) _).set (i * 2 + 1) _)⟩
        · have hnx := Lib.hid (keepG_succ_no heH.out hcd)
          have hcdH := Lib.hid hcd
          clear hcd
          go_wp2_with fail
          refine (hCH.out _ e (hbw.out.below (by exact bel_)) (List.mem_of_getElem? heH.out)).mono ?_
          rw [hcdH.out]
          rintro e' w2 ⟨rfl, hb2⟩
          have hrw2 := hrwH.out.of_block ((hb2.block g (by simp; omega)).trans (Below.heap_alloc _ _ _ hgw))
          have hB2H := Lib.hid (hbw.out.below (bl_tr (bl_al (bl_refl _) _) hb2))
          have hrw2H := Lib.hid hrw2
          clear c0 c1 hb2 hrw2
          go_wp2
          go_roundg (n - (j + 1))
          case measure => omega
          case rel => exact ⟨i, j + 1, F, _, by omega, by omega, rfl, by go_num, Lib.hid ⟨by rw [hnx.out]; exact hst'.out.1, fun q b hq => by rw [hnx.out] at hq; exact hst'.out.2.1 q b hq, fun q b hq hb => hst'.out.2.2 q b (by omega) hb⟩, hrw2H.out, hf, hB2H⟩
      · obtain rfl : j = n := by omega
        have hcl := fun (ty : TypeId) => run_clear_rowsQ (P := Try.prog) wr 27 52 ty _ Try.underlying27 Try.zeroValue52 g (i * 2) (j - i) (cap - i) (by omega) (fun q hq => by rw [hrw.cell (i := i * 2 + q) (by simp [Value.cells] at hq; omega)]; rfl) (fun q hq => hrw.frozen _) (zero2Q _)
        have hci : ¬ cap = i := by omega
        go_wp2
        go_ret
        obtain ⟨zs, hzs⟩ : ∃ zs, (Builtin.zeroCells #[Value.int .i64 0, Value.int .i64 0] (j - i)).toList = zs := ⟨_, rfl⟩
        rw [hzs]
        have hrw3 := Go.rowIs_setCells zs (i * 2) wr f' hrw
        have hil := hst'.out.1
        have hfin := hst'.out.2.1
        refine DelPt.of hil (owns_of_rowQ hrw3 rfl hbg (by omega) hmO.out (by rw [ptCells_len, hil]) (fun q u hq => ?_)) (hbw.out.sets (i * 2) zs)
        have hqlt := lt_of_get hq
        rw [ptCells_len] at hqlt
        obtain ⟨e, he⟩ : ∃ e, (keepG del bs j)[q / 2]? = some e := ⟨_, List.getElem?_eq_getElem (by omega)⟩
        have hFq := hfin (q / 2) e he
        obtain ⟨u0, u1⟩ := hf.out (q / 2) (by omega)
        obtain ⟨y0, y1⟩ := ptCells_get _ (q / 2) e he
        rw [hFq] at u0 u1
        rw [hrw3.cell (i := q) (by omega), if_neg (by omega)]
        rcases (show q % 2 = 0 ∨ q % 2 = 1 by omega) with h2 | h2
        · have e1 : q / 2 * 2 = q := by omega
          rw [e1] at u0 y0
          rw [u0, ← y0, hq]
        · have e1 : q / 2 * 2 + 1 = q := by omega
          rw [e1] at u1 y1
          rw [u1, ← y1, hq]
end Go.Proofs.Ytkfjojpohcieeaa
/- Walks: a row of rows of points from which those are struck out that a closure names. -/


namespace Go.Proofs.Ytkfjojpohcieeaa
open Go.RowKit Go.Shelf
attribute [local go_sem] BelowBy.cell BelowBy.cell_drew stillUpon givesUpon BelowBy.cell_drew2 BelowBy.cell_drew3

/-- a row's slice and what it reads as -/
abbrev SlR := Value × List Pt
def TellsR (g : Nat) (w : World) (f : FuncId) (caps : Array Value) (del : SlR → Bool) (bs : List SlR) : Prop :=
  ∀ W (e : SlR), Gb g w W → e ∈ bs → Calls Try.prog f (#[e.1] ++ caps) W fun e' w' => e' = .returned (.bool (del e)) ∧ Below W.heap.size W w'
theorem IndexFuncR_zero (A : Option Addr) (c : Nat) (fv : Value) (w : World) :
    Calls Try.prog 85 #[.slice A 0 c, fv] w fun e w' => e = .returned (.int .i64 (-1)) ∧ w = w' := by
  go_enter Try.func85, Try.ntmps85
  go_wp2
  refine wp_loop_rounds 1 ?_
  rw [rounds_succ]
  go_wp2
  go_ret
  exact ⟨rfl, rfl⟩
theorem DeleteFuncR_zero (A : Option Addr) (c : Nat) (fv : Value) (w : World) :
    Calls Try.prog 56 #[.slice A 0 c, fv] w fun e w' => e = .returned (.slice A 0 c) ∧ w = w' := by
  go_enter Try.func56, Try.ntmps56
  go_wp2_with (go_at_call 85; refine (IndexFuncR_zero _ _ _ _).mono ?_; rintro e _ ⟨rfl, rfl⟩)
  go_ret
  exact ⟨rfl, rfl⟩
set_option maxHeartbeats 1000000 in
theorem IndexFuncR_any (g g0 : Nat) (f : FuncId) (caps : Array Value) (eg : ∀ args w, (callFunc f args).run Try.prog w = .ok (.enter f args) w) (del : SlR → Bool) (n c : Nat) (bs : List SlR) (w : World) (hl : bs.length = n) (hg : g0 < w.heap.size) (hc : ∀ (j : Nat) (e : SlR), bs[j]? = some e → w.cell? ⟨g0, j, none⟩ = some e.1) (hn : n ≤ 100000) (hC : TellsR g w f caps del bs) :
    Calls Try.prog 85 #[.slice (some ⟨g0, 0, none⟩) n c, .func (.func f) #[] caps] w (FirstN w n (delAtG del bs)) := by
  have hCH := Lib.hid hC
  have hcH := Lib.hid hc
  have hlH := Lib.hid hl
  clear hC hc hl
  go_enter Try.func85, Try.ntmps85
  go_wp2
  go_loopg [8] n (fun r x wr => ∃ k : Nat, k + r = n ∧ x = .int .i64 (k : Int) ∧ Hid (∀ j, j < k → delAtG del bs j = false) ∧ Below w.heap.size w wr)
  case atStart => exact ⟨0, by omega, rfl, Lib.hid (fun j hj => by omega), bl_refl _⟩
  case round =>
    obtain ⟨k, hk, rfl, hno, hbw⟩ := hrel
    have hgw : g0 < wr.heap.size := Nat.lt_of_lt_of_le hg hbw.size
    by_cases hkn : k < n
    · obtain ⟨e, he⟩ : ∃ e, bs[k]? = some e := ⟨_, List.getElem?_eq_getElem (by rw [hlH.out]; exact hkn)⟩
      have c0 := (hbw.cell (p := ⟨g0, k, none⟩) hg).trans (hcH.out k e he)
      have hd := delAtG_eq (del := del) he
      have hem := Lib.hid (List.mem_of_getElem? he)
      cases hv : del e
      · have hdH := Lib.hid (hd.trans hv)
        have hvH := Lib.hid hv
        clear he hd hv
        go_wp2_with fail
        refine (hCH.out _ e (Gb.of_below hbw) hem.out).mono ?_
        rw [hvH.out]
        rintro e' w1 ⟨rfl, hb1⟩
        go_wp2
        go_roundg (n - (k + 1))
        case measure => omega
        case rel => exact ⟨k + 1, by omega, by go_num, Lib.hid (fun j hj => by
          rcases Nat.lt_succ_iff_lt_or_eq.1 hj with hj | rfl
          · exact hno.out j hj
          · exact hdH.out), bl_tr hbw hb1⟩
      · have hdH := Lib.hid (hd.trans hv)
        have hvH := Lib.hid hv
        clear he hd hv
        go_wp2_with fail
        refine (hCH.out _ e (Gb.of_below hbw) hem.out).mono ?_
        rw [hvH.out]
        rintro e' w1 ⟨rfl, hb1⟩
        go_wp2
        go_ret
        exact ⟨Or.inr ⟨k, hkn, rfl, hdH.out, hno.out⟩, bl_tr hbw hb1⟩
    · obtain rfl : k = n := by omega
      go_wp2
      go_ret
      exact ⟨Or.inl ⟨rfl, hno.out⟩, hbw⟩
theorem zero1Q (n : Nat) : ∀ u ∈ (Builtin.zeroCells #[Value.slice none 0 0] n).toList, u.oneCell' = true := by
  intro u hu
  simp only [Builtin.zeroCells, Array.toList_map, List.mem_map] at hu
  obtain ⟨i, _, rfl⟩ := hu
  simp [Nat.mod_one]
  rfl
/-- what is left -/
def DelRw (base g : Nat) (w : World) (l : List SlR) (e : Ending) (w' : World) : Prop := ∃ c, e = .returned (.slice (some ⟨g, 0, none⟩) l.length c) ∧ w'.ownsRow base 27 1 (.slice (some ⟨g, 0, none⟩) l.length c) l.length (l.map (·.1)) ∧ Gb g w w'
theorem DelRw.of {base g n : Nat} {w w' : World} {l : List SlR} {c : Nat} (hn : n = l.length) (h : w'.ownsRow base 27 1 (.slice (some ⟨g, 0, none⟩) n c) n (l.map (·.1))) (hb : Gb g w w') : DelRw base g w l (.returned (.slice (some ⟨g, 0, none⟩) n c)) w' := by
  subst hn; exact ⟨c, rfl, h, hb⟩
set_option maxRecDepth 100000 in
set_option maxHeartbeats 4000000 in
theorem DeleteFuncR_any (base g cap : Nat) (f : FuncId) (caps : Array Value) (eg : ∀ args w, (callFunc f args).run Try.prog w = .ok (.enter f args) w) (del : SlR → Bool) (bs : List SlR) (w : World) (hrow : w.ownsRow base 27 1 (.slice (some ⟨g, 0, none⟩) bs.length cap) bs.length (bs.map (·.1))) (hn : bs.length ≤ 100000) (hC : TellsR g w f caps del bs) (hfm : ∀ e ∈ bs, ∃ A m c, e.1 = Value.slice A m c) :
    Calls Try.prog 56 #[.slice (some ⟨g, 0, none⟩) bs.length cap, .func (.func f) #[] caps] w (DelRw base g w (keepG del bs bs.length)) := by
  obtain ⟨n, hnn⟩ : ∃ n, bs.length = n := ⟨_, rfl⟩
  rw [hnn] at hn hrow
  rw [hnn]
  have hnnH := Lib.hid hnn
  have hCH := Lib.hid hC
  have hfmH := Lib.hid hfm
  rcases hrow.2 with ⟨h0, h0'⟩ | ⟨g', cap', cur, hv, hb, hh, hnc, hm, hs, ht⟩
  · cases h0
  obtain ⟨rfl, rfl⟩ : g = g' ∧ cap = cap' := by injection hv with a1 a2 a3; injection a1 with a1; injection a1 with a1; exact ⟨a1, a3⟩
  have hgl : g < w.heap.size := (Array.getElem?_eq_some_iff.1 hh).1
  have hcells : ∀ (j : Nat) (e : SlR), bs[j]? = some e → w.cell? ⟨g, j, none⟩ = some e.1 := fun j e he => by
    have := hrow.cellAt j (by have := lt_of_get he; omega)
    rw [this, List.getElem?_map, he]; rfl
  have hcellsH := Lib.hid hcells
  clear hnn hC hfm hcells
  go_enter Try.func56, Try.ntmps56
  go_wp2_with fail
  refine (IndexFuncR_any g g f caps eg del n cap bs _ hnnH.out hgl hcellsH.out hn hCH.out).mono ?_
  rintro e w1 ⟨(⟨rfl, hall⟩ | ⟨k, hkn, rfl, hdk, hall⟩), hb1⟩
  · have hallH := Lib.hid hall
    have rdH := Lib.hid (ownsRow_below hrow hb1)
    have hK := keepG_all (del := del) (bs := bs) (k := n) hall
    rw [List.take_of_length_le (by rw [hnnH.out]; exact Nat.le_refl _)] at hK
    have hKH := Lib.hid hK
    have hb1H := Lib.hid hb1
    clear hall hrow hK hb1 hh hs ht
    go_wp2
    go_ret
    rw [hKH.out]
    exact DelRw.of hnnH.out.symm rdH.out (Gb.of_below hb1H.out)
  · have hk1 : ¬ ((k : Int) = -1) := by omega
    have hk1' : ((k : Int) == -1) = false := by simp
    have hh1 := (hb1.block g hgl).trans hh
    have hrow1 : w1.rowIs g 27 (cap * 1) (fun i => cur.getD i undef) := by
      refine ⟨cur, hh1, hs, fun i hi => ?_⟩
      have : i < cur.size := by omega
      simp [this]
    have hget : ∀ q (b : SlR), bs[q]? = some b → q < n → cur.getD q undef = b.1 := by
      intro q b hq hqn
      have x0 : (bs.map (·.1))[q]? = some b.1 := by rw [List.getElem?_map, hq]; rfl
      rw [← ht, List.getElem?_take_of_lt (by omega)] at x0
      simp only [Array.getElem?_toList] at x0
      simp [Array.getD_eq_getD_getElem?, x0]
    have hkeep0 := keepG_all (del := del) (bs := bs) (k := k) hall
    obtain ⟨ek, hek⟩ : ∃ e, bs[k]? = some e := ⟨_, List.getElem?_eq_getElem (by rw [hnnH.out]; exact hkn)⟩
    have hkeep1 := keepG_succ_no (del := del) hek (by rw [← delAtG_eq (del := del) hek]; exact hdk)
    have hkl : k = (keepG del bs (k + 1)).length := by rw [hkeep1, hkeep0]; simp; rw [hnnH.out]; omega
    obtain ⟨F0, hF0⟩ : ∃ F : Nat → Value, ∀ q (b : SlR), bs[q]? = some b → F q = b.1 := ⟨fun q => match bs[q]? with | some b => b.1 | none => undef, fun q b h => by simp only [h]⟩
    have hst : Hid (k = (keepG del bs (k + 1)).length ∧ (∀ q (b : SlR), (keepG del bs (k + 1))[q]? = some b → F0 q = b.1) ∧ (∀ q (b : SlR), k + 1 ≤ q → bs[q]? = some b → F0 q = b.1)) := by
      refine Lib.hid ⟨hkl, fun q b hq => ?_, fun q b _ hq => hF0 q b hq⟩
      rw [hkeep1, hkeep0, List.getElem?_take] at hq
      split at hq
      · exact hF0 q b hq
      · cases hq
    have hf0 : Hid (∀ q, q < n → (fun i => cur.getD i undef) q = F0 q) := Lib.hid fun q hq => by
      obtain ⟨b, hqb⟩ : ∃ b, bs[q]? = some b := ⟨_, List.getElem?_eq_getElem (by rw [hnnH.out]; exact hq)⟩
      rw [hF0 q b hqb]
      exact hget q b hqb hq
    have hB1 := Lib.hid (Gb.of_below (g := g) hb1)
    have hbg := hb
    have hmO := Lib.hid hm
    clear hkl hF0 hget hkeep0 hkeep1 hek hall hrow hh hh1 hs ht hb1 hdk
    go_wp2
    go_loopg [5, 6] (n - (k + 1)) (fun r x y wr => ∃ (i j : Nat) (F : Nat → Value) (f' : Nat → Value), j + r = n ∧ i < j ∧ x = .int .i64 (i : Int) ∧ y = .int .i64 (j : Int) ∧ Hid (i = (keepG del bs j).length ∧ (∀ q (b : SlR), (keepG del bs j)[q]? = some b → F q = b.1) ∧ (∀ q (b : SlR), j ≤ q → bs[q]? = some b → F q = b.1)) ∧ wr.rowIs g 27 (cap * 1) f' ∧ Hid (∀ q, q < n → f' q = F q) ∧ Hid (Gb g w wr))
    case atStart => exact ⟨k, k + 1, F0, _, by omega, by omega, rfl, by go_num, hst, hrow1, hf0, hB1⟩
    case round =>
      obtain ⟨i, j, F, f', hj, hij, rfl, rfl, hst', hrw, hf, hbw⟩ := hrel
      clear hst hf0 hrow1
      have hgw : g < wr.heap.size := hrw.lt
      by_cases hlt : j < n
      · obtain ⟨e, he⟩ : ∃ e, bs[j]? = some e := ⟨_, List.getElem?_eq_getElem (by rw [hnnH.out]; exact hlt)⟩
        have hFj := hst'.out.2.2 j e (Nat.le_refl _) he
        have v0 := hf.out j hlt
        rw [hFj] at v0
        have c0 := hrw.cell (i := j) (by omega)
        rw [v0] at c0
        obtain ⟨Ae, me, ce, heq⟩ := hfmH.out e (List.mem_of_getElem? he)
        rw [heq] at c0
        have heqH := Lib.hid heq
        have heH := Lib.hid he
        have hrwH := Lib.hid hrw
        clear v0 hFj he hrw heq
        cases hcd : del e
        · have hnx := Lib.hid (keepG_succ_yes heH.out hcd)
          have hcdH := Lib.hid hcd
          clear hcd
          go_wp2_with fail
          have hcall := hCH.out wr e hbw.out (List.mem_of_getElem? heH.out)
          rw [heqH.out, hcdH.out] at hcall
          refine hcall.mono ?_
          clear hcall
          rintro e' w2 ⟨rfl, hb2⟩
          have hrw2 := hrwH.out.of_block (hb2.block g hgw)
          have d0 := hrw2.cell (i := i) (by omega)
          have k0 := hrw2.frozen i
          have hB2H := Lib.hid (hbw.out.below hb2)
          have hs2 := hb2.size
          have hrw2H := Lib.hid hrw2
          have hin : i < n := by omega
          clear c0 hb2 hrw2
          go_wp2
          go_roundg (n - (j + 1))
          case measure => omega
          case rel => exact ⟨i + 1, j + 1, fun q => if q = i then .slice Ae me ce else F q, _, by omega, by omega, by go_num, by go_num, Lib.hid ⟨by
              rw [hnx.out, List.length_append, ← hst'.out.1]; rfl, fun q b hq => by
              rw [hnx.out] at hq
              have hil := hst'.out.1
              rcases Nat.lt_or_ge q i with hqi | hqi
              · rw [List.getElem?_append_left (by omega)] at hq
                show (if q = i then Value.slice Ae me ce else F q) = b.1
                rw [if_neg (by omega)]; exact hst'.out.2.1 q b hq
              · rw [List.getElem?_append_right (by omega)] at hq
                have : q - (keepG del bs j).length = 0 := by
                  rcases Nat.eq_zero_or_pos (q - (keepG del bs j).length) with h0 | h0
                  · exact h0
                  · rw [List.getElem?_eq_none (by simp; omega)] at hq; cases hq
                rw [this] at hq
                show (if q = i then Value.slice Ae me ce else F q) = b.1
                rw [if_pos (by omega)]
                simp at hq
                subst hq
                exact heqH.out.symm, fun q b hq hb => by
              show (if q = i then Value.slice Ae me ce else F q) = b.1
              rw [if_neg (by omega)]; exact hst'.out.2.2 q b (by omega) hb⟩, hrw2H.out.set i _, Lib.hid (fun q hq => by
              have u0 := hf.out q hq
              by_cases hqi : q = i
              · subst hqi
                simp
              · rw [if_neg (by omega)]
                show f' q = (if q = i then Value.slice Ae me ce else F q)
                rw [if_neg hqi]
                exact u0), Lib.hid (hB2H.out.set i _)⟩
        · have hnx := Lib.hid (keepG_succ_no heH.out hcd)
          have hcdH := Lib.hid hcd
          clear hcd
          go_wp2_with fail
          have hcall := hCH.out wr e hbw.out (List.mem_of_getElem? heH.out)
          rw [heqH.out, hcdH.out] at hcall
          refine hcall.mono ?_
          clear hcall
          rintro e' w2 ⟨rfl, hb2⟩
          have hrw2 := hrwH.out.of_block (hb2.block g hgw)
          have hB2H := Lib.hid (hbw.out.below hb2)
          have hrw2H := Lib.hid hrw2
          clear c0 hb2 hrw2
          go_wp2
          go_roundg (n - (j + 1))
          case measure => omega
          case rel => exact ⟨i, j + 1, F, _, by omega, by omega, rfl, by go_num, Lib.hid ⟨by rw [hnx.out]; exact hst'.out.1, fun q b hq => by rw [hnx.out] at hq; exact hst'.out.2.1 q b hq, fun q b hq hb => hst'.out.2.2 q b (by omega) hb⟩, hrw2H.out, hf, hB2H⟩
      · obtain rfl : j = n := by omega
        have hcl := fun (ty : TypeId) => run_clear_rowsQ (P := Try.prog) wr 24 27 ty _ Try.underlying24 Try.zeroValue27 g i (j - i) (cap - i) (by omega) (fun q hq => by rw [hrw.cell (i := i + q) (by simp [Value.cells] at hq; omega)]; rfl) (fun q hq => hrw.frozen _) (zero1Q _)
        have hci : ¬ cap = i := by omega
        go_wp2
        go_ret
        obtain ⟨zs, hzs⟩ : ∃ zs, (Builtin.zeroCells #[Value.slice none 0 0] (j - i)).toList = zs := ⟨_, rfl⟩
        rw [hzs]
        have hrw3 := Go.rowIs_setCells zs i wr f' hrw
        have hil := hst'.out.1
        have hfin := hst'.out.2.1
        refine DelRw.of hil (owns_of_rowQ hrw3 rfl hbg (by omega) hmO.out (by rw [List.length_map, hil, Nat.mul_one]) (fun q u hq => ?_)) (hbw.out.sets i zs)
        rw [List.getElem?_map, Option.map_eq_some_iff] at hq
        obtain ⟨e, he, rfl⟩ := hq
        have hqlt := lt_of_get he
        have hFq := hfin q e he
        have u0 := hf.out q (by omega)
        rw [hFq] at u0
        rw [hrw3.cell (i := q) (by omega), if_neg (by omega), u0]
end Go.Proofs.Ytkfjojpohcieeaa
/- Words: some of the rows that a call has made; such rows struck out. -/



namespace Go.Proofs.Ytkfjojpohcieeaa
open Go.RowKit Go.Shelf
theorem ownsRow_gb {g : Nat} {w w' : World} {base : Nat} {e : TypeId} {size : Nat} {v : Value} {n : Nat} {xs : List Value} (h : w.ownsRow base e size v n xs) (hg : Gb g w w') (hne : v.ownBlock ≠ some g) : w'.ownsRow base e size v n xs := h.kept hg (.inr hne)
theorem Own2.sub {w w' : World} {base g : Nat} {T E : TypeId} {size : Nat} {v v' : Value} {us : List Value} {rows : List (List Value)} (h : Own2 w base T E size v us rows) (hv : v.ownBlock = some g) {bs : List (Value × List Value)} (hbs : bs.Sublist (us.zip rows))
    (hout : w'.ownsRow base T 1 v' bs.length (bs.map (·.1))) (hv' : v'.ownBlock = some g) (hg : Gb g w w') : Own2 w' base T E size v' (bs.map (·.1)) (bs.map (·.2)) := by
  have hin : ∀ (k : Nat) (a : Value × List Value), bs[k]? = some a → ∃ i, us[i]? = some a.1 ∧ rows[i]? = some a.2 := fun k a ha => by
    have hm := hbs.subset (List.mem_of_getElem? ha)
    obtain ⟨i, hi⟩ := List.mem_iff_getElem?.1 hm
    rw [List.getElem?_zip_eq_some] at hi
    exact ⟨i, hi⟩
  have hpw : (us.zip rows).Pairwise fun a b => ∀ x, a.1.ownBlock = some x → b.1.ownBlock ≠ some x := by
    rw [List.pairwise_iff_getElem]
    intro i j hi hj hij x hx hy
    have ei := List.getElem?_eq_getElem hi
    have ej := List.getElem?_eq_getElem hj
    rw [List.getElem?_zip_eq_some] at ei ej
    have := h.apart i j _ _ x ei.1 ej.1 hx hy
    omega
  have hpb := hpw.sublist hbs
  have hlen : (bs.map (·.1)).length = bs.length := List.length_map _
  refine ⟨by rw [hlen]; exact hout, by rw [List.length_map, List.length_map], fun k u r hu hr => ?_, fun j k u u' x hj hk hx hx' => ?_, fun k u x hu hx hvx => ?_⟩
  · rw [List.getElem?_map, Option.map_eq_some_iff] at hu hr
    obtain ⟨a, ha, rfl⟩ := hu
    obtain ⟨b, hb, rfl⟩ := hr
    rw [ha] at hb
    injection hb with hb
    subst hb
    obtain ⟨i, h1, h2⟩ := hin k a ha
    obtain ⟨m, hm⟩ := h.inner i _ _ h1 h2
    refine ⟨m, ownsRow_gb hm hg fun e => ?_⟩
    exact h.off i _ g h1 e hv
  · rw [List.getElem?_map, Option.map_eq_some_iff] at hj hk
    obtain ⟨a, ha, rfl⟩ := hj
    obtain ⟨b, hb, rfl⟩ := hk
    have la := lt_of_get ha
    have lb := lt_of_get hb
    rw [List.getElem?_eq_getElem la] at ha
    rw [List.getElem?_eq_getElem lb] at hb
    injection ha with ha
    injection hb with hb
    rw [List.pairwise_iff_getElem] at hpb
    rcases Nat.lt_trichotomy j k with hlt | heq | hlt
    · exact absurd hx' (hb ▸ hpb j k la lb hlt x (ha ▸ hx))
    · exact heq
    · exact absurd hx (ha ▸ hpb k j lb la hlt x (hb ▸ hx'))
  · rw [List.getElem?_map, Option.map_eq_some_iff] at hu
    obtain ⟨a, ha, rfl⟩ := hu
    obtain ⟨i, h1, h2⟩ := hin k a ha
    rw [hv'] at hvx
    injection hvx with hvx
    subst hvx
    exact h.off i _ _ h1 hx hv
/-- slices and what they read as -/
def prsR (us : List Value) (P : List (List Pt)) : List SlR := us.zip P
theorem prsR_fst {us : List Value} {P : List (List Pt)} (h : us.length = P.length) : (prsR us P).map (·.1) = us := List.map_fst_zip (by omega)
theorem prsR_snd {us : List Value} {P : List (List Pt)} (h : us.length = P.length) : (prsR us P).map (·.2) = P := List.map_snd_zip (by omega)
theorem prsR_len {us : List Value} {P : List (List Pt)} (h : us.length = P.length) : (prsR us P).length = P.length := by unfold prsR; rw [List.length_zip]; omega
theorem prsR_keep {us : List Value} {P : List (List Pt)} (h : us.length = P.length) (p : List Pt → Bool) : ((prsR us P).filter fun e => p e.2).map (·.2) = P.filter p := by
  have : (prsR us P).filter (fun e => p e.2) = (prsR us P).filter (p ∘ (·.2)) := rfl
  rw [this, ← List.filter_map, prsR_snd h]
theorem Own2.struck {w w' : World} {base g n n' c c' : Nat} {us : List Value} {P : List (List Pt)} (h : Own2 w base 27 52 2 (.slice (some ⟨g, 0, none⟩) n c) us (P.map ptCells)) (p : List Pt → Bool)
    (hn : ((prsR us P).filter fun e => p e.2).length = n') (hout : w'.ownsRow base 27 1 (.slice (some ⟨g, 0, none⟩) n' c') n' (((prsR us P).filter fun e => p e.2).map (·.1))) (hg : Gb g w w') :
    Own2 w' base 27 52 2 (.slice (some ⟨g, 0, none⟩) n' c') (((prsR us P).filter fun e => p e.2).map (·.1)) ((P.filter p).map ptCells) := by
  subst hn
  have hul : us.length = P.length := by rw [h.len, List.length_map]
  have h2 := h.sub (g := g) (w' := w') (v' := .slice (some ⟨g, 0, none⟩) ((prsR us P).filter fun e => p e.2).length c') rfl (bs := ((prsR us P).filter fun e => p e.2).map fun e => (e.1, ptCells e.2)) ?_ ?_ rfl hg
  · rw [List.map_map, List.map_map] at h2
    rw [← prsR_keep hul p, List.map_map]
    exact h2
  · have : us.zip (P.map ptCells) = (prsR us P).map fun e => (e.1, ptCells e.2) := by
      unfold prsR
      rw [List.zip_map_right]
      rfl
    rw [this]
    exact List.Sublist.map _ List.filter_sublist
  · rw [List.map_map, List.length_map]
    exact hout
end Go.Proofs.Ytkfjojpohcieeaa
/- Walks: the points of a rectangle, the program; a point of a shape looked for, the reference. -/


namespace Go.Proofs.Ytkfjojpohcieeaa
open Go.RowKit Go.Shelf
attribute [local go_sem] BelowBy.cell BelowBy.cell_drew stillUpon givesUpon

set_option maxRecDepth 100000 in
set_option maxHeartbeats 4000000 in
theorem rectangle_any (lx ly hx hy : Int) (W H : Nat) (w : World) (hW : hx + 1 = lx + (W : Int)) (hH : hy + 1 = ly + (H : Int)) (hW1 : W ≤ 200) (hH1 : H ≤ 200) (hlx : -1000 ≤ lx ∧ lx ≤ 1000) (hly : -1000 ≤ ly ∧ ly ≤ 1000) :
    Calls Try.prog 53 #[.agg #[.int .i64 lx, .int .i64 ly], .agg #[.int .i64 hx, .int .i64 hy]] w fun e w' => ∃ v, e = .returned v ∧ w'.ownsRow w.heap.size 52 2 v (H * W) (ptCells (rectP lx ly W H)) ∧ Below w.heap.size w w' := by
  obtain ⟨i0, hi, hz0, hz1, hz2⟩ := info_parts infoPtQ
  have hWH := Lib.hid hW
  have hHH := Lib.hid hH
  have hhx : hx ≤ 1200 := by omega
  have hhy : hy ≤ 1200 := by omega
  clear hW hH
  go_enter Try.func53, Try.ntmps53
  go_wp2
  have b0 : ((w.alloc (Obj.cells #[.int .i64 lx, .int .i64 ly] 52)).alloc (Obj.cells #[.int .i64 hx, .int .i64 hy] 52)).cell? ⟨w.heap.size, 0, none⟩ = some (.int .i64 lx) := by go_simp
  have b1 : ((w.alloc (Obj.cells #[.int .i64 lx, .int .i64 ly] 52)).alloc (Obj.cells #[.int .i64 hx, .int .i64 hy] 52)).cell? ⟨w.heap.size + 1, 0, none⟩ = some (.int .i64 hx) := by go_simp
  have b2 : ((w.alloc (Obj.cells #[.int .i64 lx, .int .i64 ly] 52)).alloc (Obj.cells #[.int .i64 hx, .int .i64 hy] 52)).cell? ⟨w.heap.size + 1, 1, none⟩ = some (.int .i64 hy) := by go_simp
  have hs2 : ((w.alloc (Obj.cells #[.int .i64 lx, .int .i64 ly] 52)).alloc (Obj.cells #[.int .i64 hx, .int .i64 hy] 52)).heap.size = w.heap.size + 2 := by simp
  have hbW : Below w.heap.size w ((w.alloc (Obj.cells #[.int .i64 lx, .int .i64 ly] 52)).alloc (Obj.cells #[.int .i64 hx, .int .i64 hy] 52)) := bl_al (bl_al (bl_refl _) _) _
  obtain ⟨W2, hW2⟩ : ∃ W2, ((w.alloc (Obj.cells #[.int .i64 lx, .int .i64 ly] 52)).alloc (Obj.cells #[.int .i64 hx, .int .i64 hy] 52)) = W2 := ⟨_, rfl⟩
  rw [hW2] at b0 b1 b2 hs2 hbW ⊢
  have hl1 : w.heap.size + 1 < W2.heap.size := by omega
  have hl0 : w.heap.size < W2.heap.size := by omega
  have hs2H := Lib.hid hs2
  clear hW2 hs2
  go_loopg [5, 6] H (fun g v y wr => ∃ (j : Nat), j + g = H ∧ y = .int .i64 (ly + (j : Int)) ∧ Hid (wr.ownsRow W2.heap.size 52 2 v (j * W) (ptCells (rectP lx ly W j))) ∧ Hid (Below W2.heap.size W2 wr))
  case atStart => exact ⟨0, by omega, by go_num, Lib.hid (by simpa [rectP, ptCells] using World.ownsRow_nil W2 W2.heap.size 52 2), Lib.hid (bl_refl _)⟩
  case round =>
    obtain ⟨j, hj, rfl, hO, hbw⟩ := hrel
    have hszl := hbw.out.size
    have c2 := (hbw.out.cell (p := ⟨w.heap.size + 1, 1, none⟩) hl1).trans b2
    have c0 := (hbw.out.cell (p := ⟨w.heap.size, 0, none⟩) hl0).trans b0
    have l1 : w.heap.size + 1 < wr.heap.size := by omega
    have l0 : w.heap.size < wr.heap.size := by omega
    by_cases hjH : j < H
    · have hle : ly + (j : Int) ≤ hy := by have := hHH.out; omega
      obtain ⟨y, hy'⟩ : ∃ y, ly + (j : Int) = y := ⟨_, rfl⟩
      have hyr : -1000 ≤ y ∧ y ≤ 1200 := by omega
      rw [hy']
      rw [hy'] at hle
      have hyH := Lib.hid hy'
      have hmul := Lib.hid (show (j + 1) * W = j * W + W from Nat.succ_mul j W)
      have hmb : j * W ≤ 40000 := Nat.le_trans (Nat.mul_le_mul (show j ≤ 200 by omega) hW1) (by decide)
      obtain ⟨N, hN⟩ : ∃ N, j * W = N := ⟨_, rfl⟩
      rw [hN] at hO hmul hmb
      clear hy' hN
      obtain ⟨wo, hwo⟩ : ∃ wo : World, wo = wr := ⟨_, rfl⟩
      subst hwo
      go_wp2
      go_loopg [5, 7] W (fun g v x wz => ∃ (i : Nat), i + g = W ∧ x = .int .i64 (lx + (i : Int)) ∧ Hid (wz.ownsRow W2.heap.size 52 2 v (N + i) (ptCells (rectP lx ly W j ++ rowP lx y i))) ∧ Hid (Below W2.heap.size W2 wz))
      case atStart => exact ⟨0, by omega, by go_num, Lib.hid (by simpa [rowP_zero] using hO.out), hbw⟩
      case round =>
        clear c0 c2 l0 l1
        obtain ⟨i, hi', rfl, hR, hbz⟩ := hrel
        have hszz := hbz.out.size
        have c1 := (hbz.out.cell (p := ⟨w.heap.size + 1, 0, none⟩) hl1).trans b1
        have l1 : w.heap.size + 1 < wr.heap.size := by omega
        obtain ⟨A1, cp, rfl⟩ := ownsRow_form hR.out
        by_cases hiW : i < W
        · have hle2 : lx + (i : Int) ≤ hx := by have := hWH.out; omega
          obtain ⟨x, hx'⟩ : ∃ x, lx + (i : Int) = x := ⟨_, rfl⟩
          have hxr : -1000 ≤ x ∧ x ≤ 1200 := by omega
          have hsn := Lib.hid (show rectP lx ly W j ++ rowP lx y (i + 1) = (rectP lx ly W j ++ rowP lx y i) ++ [⟨x, y⟩] by rw [rowP_succ, hx', List.append_assoc])
          rw [hx']
          rw [hx'] at hle2
          have hxH := Lib.hid hx'
          clear hx'
          go_wp2_with (at_builtin; refine wpList_append_own_at _ rfl _ _ 27 rfl W2.heap.size 52 i0 (.agg #[.int .i64 0, .int .i64 0]) 2 16 Try.underlying27 hi hz0 hz1 hz2 rfl (by decide) (.slice A1 (N + i) cp) (N + i) (ptCells (rectP lx ly W j ++ rowP lx y i)) rfl (hR.out.alloc _) ⟨wr.heap.size, 0, none⟩ 1 1 [.int .i64 x, .int .i64 y] rfl rfl (cell_pt2 _ _ _ _) (fun x hx => by simp at hx; rcases hx with rfl | rfl <;> rfl) (by unfold maxLen; omega) (by omega) (by simp; omega) ?_; intro v5 w5 hown5 hgrow5 _ hat5; have hown5H := Lib.hid hown5; have hgrow5H := Lib.hid hgrow5; clear hown5 hgrow5 hat5)
          go_roundg (W - (i + 1))
          case measure => omega
          case rel =>
            refine ⟨i + 1, by omega, by rw [← hxH.out]; go_num, Lib.hid ?_, Lib.hid ?_⟩
            · rw [hsn.out, ptCells_snoc]; exact hown5H.out
            · exact hbz.out.trans (below_app hszz (fun g e => (hR.out.lt g e).1) hgrow5H.out)
        · obtain rfl : i = W := by omega
          have hle2 : ¬ lx + (i : Int) ≤ hx := by have := hWH.out; omega
          go_wp2
          go_roundg (H - (j + 1))
          case measure => omega
          case rel =>
            refine ⟨j + 1, by omega, by rw [← hyH.out]; go_num, Lib.hid ?_, hbz⟩
            simp only [rectP]
            rw [hmul.out, hyH.out]
            exact hR.out
    · obtain rfl : j = H := by omega
      have hle : ¬ ly + (j : Int) ≤ hy := by have := hHH.out; omega
      go_wp2
      go_ret
      exact ⟨_, rfl, ownsRow_baseQ hO.out (by have := hs2H.out; omega), hbW.trans (hbw.out.mono (by omega))⟩
end Go.Proofs.Ytkfjojpohcieeaa
/- Walks: the holes of a shape, the program. -/







namespace Go.Proofs.Ytkfjojpohcieeaa
open Go.RowKit Go.Shelf
attribute [local go_sem] BelowBy.cell BelowBy.cell_drew stillUpon givesUpon

theorem RdSl.gb {g : Nat} {w W : World} {A : Option Addr} {n : Nat} {ps : List Pt} (h : RdSl 2 RPt w A n ps) (hA : 0 < n → ∀ b o, A = some ⟨b, o, none⟩ → b ≠ g) (hb : Gb g w W) : RdSl 2 RPt W A n ps :=
  ⟨h.len, fun hn => by
    obtain ⟨b, o, e, hlt, hc⟩ := h.cells hn
    exact ⟨b, o, e, Nat.lt_of_lt_of_le hlt hb.size, fun k hk => ⟨(hb.cell (o := o + k * 2) hlt (hA hn b o e)).trans (hc k hk).1, (hb.cell (o := o + k * 2 + 1) hlt (hA hn b o e)).trans (hc k hk).2⟩⟩⟩
theorem RdSl.lt_base {w : World} {A : Option Addr} {n : Nat} {ps : List Pt} (h : RdSl 2 RPt w A n ps) (hn : 0 < n) : ∀ b o, A = some ⟨b, o, none⟩ → b < w.heap.size := fun b o e => by
  obtain ⟨b', o', e', hlt, _⟩ := h.cells hn
  rw [e] at e'
  injection e' with e'
  injection e' with e'
  omega
theorem keepG_filter {α : Type} (del : α → Bool) (bs : List α) : keepG del bs bs.length = bs.filter fun b => !del b := by
  unfold keepG; rw [List.take_length]
/-- the first closure: is a point in the shape -/
theorem holes1_any {p n c : Nat} {A : Option Addr} {ps : List Pt} {x y : Int} {w : World} (hp : w.cell? ⟨p, 0, none⟩ = some (.slice A n c)) (hlt : p < w.heap.size) (h : RdSl 2 RPt w A n ps) (hS : Shp ps) (hn : n ≤ 100000) :
    Calls Try.prog 54 #[.agg #[.int .i64 x, .int .i64 y], .pointer (some ⟨p, 0, none⟩)] w fun e w' => e = .returned (.bool (decide ((⟨x, y⟩ : Pt) ∈ ps))) ∧ Below w.heap.size w w' := by
  have hH := Lib.hid h
  have hSH := Lib.hid hS
  have hpl := Nat.le_of_lt hlt
  obtain ⟨r, hr⟩ : ∃ r, decide ((⟨x, y⟩ : Pt) ∈ ps) = r := ⟨_, rfl⟩
  rw [hr]
  have hrH := Lib.hid hr
  clear h hS hr
  go_enter Try.func54, Try.ntmps54
  go_wp2_with fail
  refine (isIn_at (hH.out.below RPt.stable (by exact bel_)) hSH.out.sortedS hn hrH.out).mono ?_
  rintro e w1 ⟨rfl, hb1⟩
  go_wp2
  go_ret
  exact ⟨rfl, by exact bel_⟩
/-- the innermost closure: is a point on the edge -/
theorem holes21_any {lo hi : Nat} {x y lx ly hx hy : Int} {w : World} (c0 : w.cell? ⟨lo, 0, none⟩ = some (.int .i64 lx)) (c1 : w.cell? ⟨lo, 1, none⟩ = some (.int .i64 ly)) (d0 : w.cell? ⟨hi, 0, none⟩ = some (.int .i64 hx)) (d1 : w.cell? ⟨hi, 1, none⟩ = some (.int .i64 hy)) (hlo : lo < w.heap.size) (hhi : hi < w.heap.size) :
    Calls Try.prog 60 #[.agg #[.int .i64 x, .int .i64 y], .pointer (some ⟨lo, 0, none⟩), .pointer (some ⟨hi, 0, none⟩)] w fun e w' => e = .returned (.bool (x == lx || x == hx || y == ly || y == hy)) ∧ Below w.heap.size w w' := by
  have hl1 := Nat.le_of_lt hlo
  have hl2 := Nat.le_of_lt hhi
  cases h1 : (x == lx)
  · cases h2 : (x == hx)
    · cases h3 : (y == ly)
      · cases h4 : (y == hy)
        all_goals
          go_enter Try.func60, Try.ntmps60
          go_wp2
          go_ret
          exact ⟨rfl, bl_al (bl_refl _) _⟩
      · go_enter Try.func60, Try.ntmps60
        go_wp2
        go_ret
        exact ⟨rfl, bl_al (bl_refl _) _⟩
    · go_enter Try.func60, Try.ntmps60
      go_wp2
      go_ret
      exact ⟨rfl, bl_al (bl_refl _) _⟩
  · go_enter Try.func60, Try.ntmps60
    go_wp2
    go_ret
    exact ⟨rfl, bl_al (bl_refl _) _⟩
set_option maxHeartbeats 1000000 in
theorem ContainsFuncG_any (g : Nat) (f : FuncId) (caps : Array Value) (eg : ∀ args w, (callFunc f args).run Try.prog w = .ok (.enter f args) w) (del : Pt → Bool) (A : Option Addr) (n c : Nat) (bs : List Pt) (w : World) (hB : RdSl 2 RPt w A n bs) (hn : n ≤ 100000) (hC : TellsP g w f caps del bs) :
    Calls Try.prog 59 #[.slice A n c, .func (.func f) #[] caps] w fun e w' => e = .returned (.bool (bs.any del)) ∧ Below w.heap.size w w' := by
  have hBH := Lib.hid hB
  have hCH := Lib.hid hC
  have hl := Lib.hid hB.len
  clear hB hC
  go_enter Try.func59, Try.ntmps59
  go_wp2_with fail
  refine (IndexFuncG_any g f caps eg del A n c bs _ hBH.out hn hCH.out).mono ?_
  rintro e w1 ⟨(⟨rfl, hall⟩ | ⟨k, hkn, rfl, hdk, hall⟩), hb1⟩
  · have hr := Lib.hid (show bs.any del = false by
      rw [List.any_eq_false]
      intro x hx
      obtain ⟨j, hj⟩ := List.mem_iff_getElem?.1 hx
      have := hall j (by rw [← hl.out]; exact lt_of_get hj)
      rw [delAtG_eq hj] at this
      rw [this]; decide)
    have hb1H := Lib.hid hb1
    clear hall hb1
    go_wp2
    go_ret
    exact ⟨ret_bool hr.out.symm, hb1H.out⟩
  · have hr := Lib.hid (show bs.any del = true by
      rw [List.any_eq_true]
      obtain ⟨e, he⟩ : ∃ e, bs[k]? = some e := ⟨_, List.getElem?_eq_getElem (by rw [hl.out]; exact hkn)⟩
      rw [delAtG_eq he] at hdk
      exact ⟨e, List.mem_of_getElem? he, hdk⟩)
    have hb1H := Lib.hid hb1
    have hk0 : (0 : Int) ≤ (k : Int) := by omega
    clear hall hb1 hdk
    go_wp2
    go_ret
    exact ⟨ret_bool hr.out.symm, hb1H.out⟩
theorem enters_holes1 : ∀ args w, (callFunc 54 args).run Try.prog w = .ok (.enter 54 args) w := enters_of Try.func54 (by kernel_rfl) rfl
theorem enters_holes2 : ∀ args w, (callFunc 58 args).run Try.prog w = .ok (.enter 58 args) w := enters_of Try.func58 (by kernel_rfl) rfl
theorem enters_holes21 : ∀ args w, (callFunc 60 args).run Try.prog w = .ok (.enter 60 args) w := enters_of Try.func60 (by kernel_rfl) rfl
/-- the second closure: has a part a point on the edge -/
theorem holes2_any {lo hi m c : Nat} {A : Option Addr} {l : List Pt} {ps : List Pt} {w : World} (c0 : w.cell? ⟨lo, 0, none⟩ = some (.int .i64 (boxB ps).lx)) (c1 : w.cell? ⟨lo, 1, none⟩ = some (.int .i64 (boxB ps).ly)) (d0 : w.cell? ⟨hi, 0, none⟩ = some (.int .i64 (boxB ps).hx)) (d1 : w.cell? ⟨hi, 1, none⟩ = some (.int .i64 (boxB ps).hy)) (hlo : lo < w.heap.size) (hhi : hi < w.heap.size) (h : RdSl 2 RPt w A m l) (hm : m ≤ 100000) :
    Calls Try.prog 58 #[.slice A m c, .pointer (some ⟨lo, 0, none⟩), .pointer (some ⟨hi, 0, none⟩)] w fun e w' => e = .returned (.bool (l.any (edgeB ps))) ∧ Below w.heap.size w w' := by
  have hH := Lib.hid h
  have hT : Hid (TellsP w.heap.size w 60 #[.pointer (some ⟨lo, 0, none⟩), .pointer (some ⟨hi, 0, none⟩)] (edgeB ps) l) := Lib.hid fun W e hW _ =>
    holes21_any ((hW.cell (o := 0) hlo (by omega)).trans c0) ((hW.cell (o := 1) hlo (by omega)).trans c1) ((hW.cell (o := 0) hhi (by omega)).trans d0) ((hW.cell (o := 1) hhi (by omega)).trans d1) (Nat.lt_of_lt_of_le hlo hW.size) (Nat.lt_of_lt_of_le hhi hW.size)
  clear h c0 c1 d0 d1
  go_enter Try.func58, Try.ntmps58
  go_wp2_with fail
  refine (ContainsFuncG_any w.heap.size _ _ enters_holes21 (edgeB ps) A m c l _ hH.out hm hT.out).mono ?_
  rintro e w1 ⟨rfl, hb1⟩
  go_wp2
  go_ret
  exact ⟨rfl, hb1⟩
/-- rows of points that the call has made -/
def RowsR (w : World) (P : List (List Pt)) (e : Ending) (w' : World) : Prop :=
  ∃ A c us, e = .returned (.slice A P.length c) ∧ Own2 w' w.heap.size 27 52 2 (.slice A P.length c) us (P.map ptCells) ∧ Below w.heap.size w w'
set_option maxRecDepth 100000 in
set_option maxHeartbeats 4000000 in
theorem holes_any (A : Option Addr) (n c : Nat) (ps : List Pt) (w : World) (h : RdSl 2 RPt w A n ps) (hS : Shp ps) (hn0 : 0 < n) (hn : n ≤ 100000) :
    Calls Try.prog 29 #[.slice A n c] w (RowsR w (holesB ps)) := by
  have hl := Lib.hid h.len
  have hH := Lib.hid h
  have hSH := Lib.hid hS
  have hn0' : 0 < ps.length := by rw [hl.out]; exact hn0
  have hbx : bxN ps n = boxB ps := by unfold boxB; rw [hl.out]
  obtain ⟨w1', w2', w3', w4', w5', w6'⟩ := wdB_eq hS hn0'
  have hrng := boxB_rng hS hn0'
  have hrl := rectB_len hS hn0'
  have hrlH := Lib.hid hrl
  have hfl := Lib.hid (freeB_len hS hn0')
  have hbxH := Lib.hid hbx
  have hA0 := Lib.hid (h.lt_base hn0)
  have hn0H := Lib.hid hn0'
  clear h hS hbx hrl hn0'
  go_enter Try.func29, Try.ntmps29
  go_wp2_with fail
  refine (bounds_any (hH.out.below RPt.stable (by exact bel_)) hn0 hn).mono ?_
  rw [hbxH.out]
  rintro e w1 ⟨rfl, hb1⟩
  have a0 : w1.cell? ⟨w.heap.size, 0, none⟩ = some (.slice A n c) := (hb1.cell (p := ⟨w.heap.size, 0, none⟩) (by simp)).trans (by go_simp)
  have hs1 := hb1.size
  simp only [World.size_alloc] at hs1
  have hb1H := Lib.hid (show Below w.heap.size w w1 from (bl_al (bl_refl w) _).trans (hb1.mono (by simp)))
  clear hb1
  go_wp2_with fail
  refine (rectangle_any _ _ _ _ (wdB ps) (htB ps) _ w1' w2' (by omega) (by omega) (by omega) (by omega)).mono ?_
  rintro e w2 ⟨v2, rfl, hO2, hb2⟩
  have hs2 := hb2.size
  simp only [World.size_alloc] at hs2
  obtain ⟨g, cap, hv2⟩ : ∃ g cap, v2 = .slice (some ⟨g, 0, none⟩) (rectB ps).length cap := by
    rcases hO2.2 with ⟨_, h0⟩ | ⟨g, cap, cur, hv, _⟩
    · have := hrlH.out; omega
    · exact ⟨g, cap, by rw [hrlH.out.1]; exact hv⟩
  subst hv2
  have hO2' : w2.ownsRow (w1.heap.size + 1 + 1) 52 2 (.slice (some ⟨g, 0, none⟩) (rectB ps).length cap) (rectB ps).length (ptCells (rectB ps)) := by
    have := hO2
    simp only [World.size_alloc] at this
    rw [← hrlH.out.1] at this
    exact this
  have hgl := hO2'.lt g rfl
  have hlw : w.heap.size < w1.heap.size := by omega
  have hlw2 : w.heap.size < w1.heap.size + 1 := by omega
  have a1 := (hb2.cell (p := ⟨w.heap.size, 0, none⟩) (by simp; omega)).trans (show _ = some (Value.slice A n c) by go_simp)
  have l0 : w2.cell? ⟨w1.heap.size, 0, none⟩ = some (.int .i64 (boxB ps).lx) := (hb2.cell (p := ⟨w1.heap.size, 0, none⟩) (by simp; omega)).trans (by go_simp)
  have l1 : w2.cell? ⟨w1.heap.size, 1, none⟩ = some (.int .i64 (boxB ps).ly) := (hb2.cell (p := ⟨w1.heap.size, 1, none⟩) (by simp; omega)).trans (by go_simp)
  have u0 : w2.cell? ⟨w1.heap.size + 1, 0, none⟩ = some (.int .i64 (boxB ps).hx) := (hb2.cell (p := ⟨w1.heap.size + 1, 0, none⟩) (by simp)).trans (by go_simp)
  have u1 : w2.cell? ⟨w1.heap.size + 1, 1, none⟩ = some (.int .i64 (boxB ps).hy) := (hb2.cell (p := ⟨w1.heap.size + 1, 1, none⟩) (by simp)).trans (by go_simp)
  have hb2H : Hid (Below w.heap.size w w2) := Lib.hid (hb1H.out.trans (show Below w.heap.size w1 w2 from (((Below.refl _ w1).alloc (by omega) _).alloc (by simp; omega) _).trans (hb2.mono (by simp; omega))))
  have hT : Hid (TellsP g w2 54 #[.pointer (some ⟨w.heap.size, 0, none⟩)] (fun p => decide (p ∈ ps)) (rectB ps)) := Lib.hid fun W e hW _ =>
    holes1_any ((hW.cell (o := 0) (by omega) (by omega)).trans a1) (Nat.lt_of_lt_of_le (by omega) hW.size) ((hH.out.below RPt.stable hb2H.out).gb (fun _ b o e => by have := hA0.out b o e; omega) hW) hSH.out hn
  have hO2H := Lib.hid hO2'
  have hdl : Hid (keepG (fun p => decide (p ∈ ps)) (rectB ps) (rectB ps).length = freeB ps) := Lib.hid (keepG_filter _ _)
  clear hO2 hO2' hb2
  go_wp2_with fail
  refine (DeleteFuncG_any (w1.heap.size + 1 + 1) g cap _ _ enters_holes1 _ (rectB ps) _ hO2H.out (by have := hrlH.out; omega) hT.out).mono ?_
  rw [hdl.out]
  rintro e w3 ⟨c3, rfl, hO3, hg3⟩
  have hs3 := hg3.size
  have l0' := (hg3.cell (b := w1.heap.size) (o := 0) (by omega) (by omega)).trans l0
  have l1' := (hg3.cell (b := w1.heap.size) (o := 1) (by omega) (by omega)).trans l1
  have u0' := (hg3.cell (b := w1.heap.size + 1) (o := 0) (by omega) (by omega)).trans u0
  have u1' := (hg3.cell (b := w1.heap.size + 1) (o := 1) (by omega) (by omega)).trans u1
  have hb3H := Lib.hid (hb2H.out.trans (hg3.toBelow (base := w.heap.size) (by omega) (by omega)))
  have hrd := Lib.hid (rdPts hO3 rfl)
  have hfS := Lib.hid (freeB_shp hSH.out hn0H.out)
  have hPV := Lib.hid (partsV_parts hfS.out)
  clear hO3 hg3 hO2H hT a0 a1 l0 l1 u0 u1 hb1H hb2H
  go_wp2_with fail
  refine (connected_any _ (freeB ps).length c3 (freeB ps) _ hrd.out hfS.out (by have := hfl.out; omega)).mono ?_
  rw [hPV.out]
  rintro e w4 ⟨v4, us4, rfl, hO4, hb4⟩
  have hs4 := hb4.size
  obtain ⟨PS, hPS⟩ : ∃ PS, partsP (freeB ps) = PS := ⟨_, rfl⟩
  have hPl := partsP_len (freeB ps)
  rw [hPS] at hO4 hPl
  have hul : us4.length = PS.length := by rw [hO4.len, List.length_map]
  obtain ⟨A4, c4, rfl⟩ := hO4.form hul
  have l0 := (hb4.cell (p := ⟨w1.heap.size, 0, none⟩) (by simp; omega)).trans l0'
  have l1 := (hb4.cell (p := ⟨w1.heap.size, 1, none⟩) (by simp; omega)).trans l1'
  have u0 := (hb4.cell (p := ⟨w1.heap.size + 1, 0, none⟩) (by simp; omega)).trans u0'
  have u1 := (hb4.cell (p := ⟨w1.heap.size + 1, 1, none⟩) (by simp; omega)).trans u1'
  have hb4H := Lib.hid (hb3H.out.trans (hb4.mono hb3H.out.size))
  have hulH := Lib.hid hul
  have hO4H := Lib.hid hO4
  have hhB : Hid (holesB ps = PS.filter fun l => !(l.any (edgeB ps))) := Lib.hid (by unfold holesB; rw [hPS])
  have hPe : Hid (∀ l ∈ PS, l.length ≤ 14641) := Lib.hid (fun l hl => by
    rw [← hPS] at hl
    exact Nat.le_trans (partsP_mem hl).2 hfl.out)
  obtain ⟨N, hN⟩ : ∃ N, PS.length = N := ⟨_, rfl⟩
  have hNH := Lib.hid hN
  clear l0' l1' u0' u1' hb4 hPS hO4
  rw [hN] at hul hPl ⊢
  rw [hN] at hO4H
  clear hN
  by_cases hz : N = 0
  · subst hz
    have hP0 : PS = [] := List.eq_nil_of_length_eq_zero hNH.out
    go_wp2_with fail
    refine (DeleteFuncR_zero A4 c4 _ _).mono ?_
    rintro e _ ⟨rfl, rfl⟩
    go_wp2
    go_ret
    have hE : holesB ps = [] := by rw [hhB.out, hP0]; rfl
    rw [hE]
    have h1 := hO4H.out.rebase (base' := w.heap.size) (by have := hb3H.out.size; omega)
    rw [hP0] at h1
    exact ⟨A4, c4, us4, rfl, h1, hb4H.out⟩
  · obtain ⟨g4, cap4, hv⟩ := hO4H.out.formPos hul (by omega)
    injection hv with hv1 hv2 hv3
    subst hv1 hv3
    clear hv2
    have hg4 := hO4H.out.lt g4 rfl
    have hfst := Lib.hid (prsR_fst hulH.out)
    have hlp := Lib.hid ((prsR_len hulH.out).trans hNH.out)
    have hrow : w4.ownsRow w3.heap.size 27 1 (.slice (some ⟨g4, 0, none⟩) (prsR us4 PS).length c4) (prsR us4 PS).length ((prsR us4 PS).map (·.1)) := by
      rw [hfst.out, hlp.out]
      exact hO4H.out.outerN hul
    have hmem : ∀ e ∈ prsR us4 PS, ∃ (A : Option Addr) (m c : Nat), e.1 = Value.slice A m c ∧ RdSl 2 RPt w4 A m e.2 ∧ m ≤ 14641 ∧ (0 < m → ∀ b o, A = some ⟨b, o, none⟩ → b ≠ g4) := fun e he => by
      obtain ⟨i, hi⟩ := List.mem_iff_getElem?.1 he
      unfold prsR at hi
      rw [List.getElem?_zip_eq_some] at hi
      obtain ⟨m, r', hr', hown0⟩ := hO4H.out.get hi.1
      rw [List.getElem?_map, hi.2] at hr'
      simp only [Option.map_some, Option.some.injEq] at hr'
      subst hr'
      obtain ⟨Au, capu, hAu⟩ := ownsRow_form hown0
      rw [hAu] at hown0
      have hm := hown0.1
      rw [ptCells_len] at hm
      have hme : m = e.2.length := by omega
      subst hme
      refine ⟨Au, _, capu, hAu, rdPts hown0 rfl, hPe.out _ (List.mem_of_getElem? hi.2), fun _ b o hb => ?_⟩
      intro hbe
      subst hb hbe
      exact hO4H.out.off i _ b hi.1 (by rw [hAu]; rfl) rfl
    have hT : Hid (TellsR g4 w4 58 #[.pointer (some ⟨w1.heap.size, 0, none⟩), .pointer (some ⟨w1.heap.size + 1, 0, none⟩)] (fun e => e.2.any (edgeB ps)) (prsR us4 PS)) := Lib.hid fun W e hW he => by
      obtain ⟨A, m, c, hA, hr, hm, hne⟩ := hmem e he
      rw [hA]
      exact holes2_any ((hW.cell (o := 0) (by omega) (by omega)).trans l0) ((hW.cell (o := 1) (by omega) (by omega)).trans l1) ((hW.cell (o := 0) (by omega) (by omega)).trans u0) ((hW.cell (o := 1) (by omega) (by omega)).trans u1) (Nat.lt_of_lt_of_le (by omega) hW.size) (Nat.lt_of_lt_of_le (by omega) hW.size) (hr.gb hne hW) (by omega)
    have hfm := Lib.hid (show ∀ e ∈ prsR us4 PS, ∃ A m c, e.1 = Value.slice A m c from fun e he => by
      obtain ⟨A, m, c, hA, _⟩ := hmem e he
      exact ⟨A, m, c, hA⟩)
    have hrowH := Lib.hid hrow
    clear hmem hrow l0 l1 u0 u1
    go_wp2_with fail
    have hcall := DeleteFuncR_any w3.heap.size g4 c4 _ _ enters_holes2 (fun e => e.2.any (edgeB ps)) (prsR us4 PS) w4 hrowH.out (by rw [hlp.out]; have := hfl.out; omega) hT.out hfm.out
    rw [keepG_filter, hlp.out] at hcall
    refine hcall.mono ?_
    clear hcall
    rintro e w5 ⟨c5, rfl, hO5, hg5⟩
    have hO5H := Lib.hid hO5
    have hg5H := Lib.hid hg5
    clear hO5 hg5
    have hfl2 := Lib.hid (show ((prsR us4 PS).filter fun e => !(e.2.any (edgeB ps))).length = (holesB ps).length by
      rw [hhB.out, ← prsR_keep hulH.out (fun l => !(l.any (edgeB ps))), List.length_map])
    obtain ⟨M, hM⟩ : ∃ M, ((prsR us4 PS).filter fun e => !(e.2.any (edgeB ps))).length = M := ⟨_, rfl⟩
    have hMH := Lib.hid hM
    rw [hM] at hO5H ⊢
    rw [hM] at hfl2
    clear hM
    go_wp2
    go_ret
    refine ⟨some ⟨g4, 0, none⟩, c5, ((prsR us4 PS).filter fun e => !(e.2.any (edgeB ps))).map (·.1), by rw [← hfl2.out]; rfl, ?_, hb4H.out.trans (hg5H.out.toBelow (by have := hb3H.out.size; omega) (by have := hb3H.out.size; omega))⟩
    have h1 := (hO4H.out.struck (w' := w5) (n' := M) (c' := c5) (fun l => !(l.any (edgeB ps))) hMH.out hO5H.out hg5H.out).rebase (base' := w.heap.size) (by have := hb3H.out.size; omega)
    rw [← hfl2.out, hhB.out]
    exact h1
end Go.Proofs.Ytkfjojpohcieeaa
/- Walks: a point looked for in a shape, the reference. -/


namespace Go.Proofs.Ytkfjojpohcieeaa
open Go.RowKit Go.Shelf
attribute [local go_sem] BelowBy.cell BelowBy.cell_drew stillUpon givesUpon

set_option maxHeartbeats 2000000 in
theorem l04Has_any (A : Option Addr) (n c : Nat) (ps : List Pt) (x y : Int) (w : World) (h2 : RdSl 2 RPt w A n ps) (hS : Shp ps) (h5 : n ≤ 100000) :
    Calls Try.prog 49 #[.slice A n c, .agg #[.int .i64 x, .int .i64 y]] w fun e w' => e = .returned (.bool (decide ((⟨x, y⟩ : Pt) ∈ ps))) ∧ Below w.heap.size w w' := by
  have hl := h2.len
  
  go_enter Try.func49, Try.ntmps49
  go_wp2
  go_loopg [5, 6] n (fun g lo hi wr => ∃ i j : Nat, j - i ≤ g ∧ i ≤ j ∧ j ≤ n ∧ lo = .int .i64 i ∧ hi = .int .i64 j ∧ Hid (∀ (k : Nat) (d : Pt), k < i → ps[k]? = some d → lessPt d.x d.y x y = true) ∧ Hid (∀ (k : Nat) (d : Pt), j ≤ k → ps[k]? = some d → lessPt d.x d.y x y = false) ∧
    Below w.heap.size w wr ∧ wr.cell? ⟨w.heap.size, 0, none⟩ = some (.int .i64 x) ∧ wr.cell? ⟨w.heap.size, 1, none⟩ = some (.int .i64 y) ∧ w.heap.size < wr.heap.size)
  case atStart => exact ⟨0, n, by omega, by omega, by omega, rfl, rfl, Lib.hid fun k d hk => by omega, Lib.hid fun k d hk hd => by have := lt_of_get hd; omega, by exact bel_, by go_simp, by go_simp, by simp⟩
  case round =>
    obtain ⟨i, j, hg, hij, hjn, rfl, rfl, hlo, hhi, hbw, hx0, hx1, hsz⟩ := hrel
    have g2 := h2.below RPt.stable hbw
    by_cases hlt2 : i < j
    · obtain ⟨b, o, rfl, hb, hc⟩ := g2.ptr (by omega)
      obtain ⟨m, hm⟩ : ∃ m : Nat, m = (i + j) / 2 := ⟨_, rfl⟩
      have hm1 : i ≤ m := by omega
      have hm2 : m < j := by omega
      have hmi : ((i : Int) + (j : Int)) / 2 = (m : Int) := by omega
      have hmn : m < n := by omega
      clear hm
      obtain ⟨e, he⟩ := g2.get (k := m) (by omega)
      obtain ⟨c0, c1⟩ := hc m e he
      have he := Lib.hid he
      clear hc g2
      cases hl4 : lessPt e.x e.y x y
      · go_wp2
        refine wp_region_ord [(0, .q), (1, .q), (2, .q), (3, .q), (4, .q), (5, .g)] (by kernel_rfl) (by kernel_rfl) ?_
        simp only [pick, List.filterMap_cons, List.filterMap_nil, List.getElem?_toArray, List.getElem?_cons_zero, List.getElem?_cons_succ, Option.map_some]
        repeat (first
          | ((with_reducible refine wpD_p (fun K hK => ?_)); go_simp; refine hK _ ?_; clear hK K)
          | ((with_reducible refine wpD_q (fun K hK => ?_)); go_simp; (first | refine hK _ ?_ | (go_bits; refine hK _ ?_) | (go_bits; go_simp; refine hK _ ?_)); clear hK K)
          | ((with_reducible refine wpD_g (fun K hK => ?_)); go_simp; refine hK _ _ ?_; clear hK K)
          | ((with_reducible refine wpD_g (fun K hK => ?_)); go_simp; refine ⟨Grew.of_alloc _, hK _ _ ?_⟩; clear hK K)
          | ((with_reducible refine wpD_g (fun K hK => ?_)); go_simp; go_at_call 47; refine (sLessPoint_at hl4).mono ?_; rintro e w1 ⟨rfl, hb1⟩; refine ⟨_, rfl, hb1, hK _ _ ?_⟩; clear hK K; obtain ⟨chb1, fhb1, shb1, thb1⟩ := bcell hb1))
        with_reducible refine wpD_nil ?_
        go_wp2
        go_roundg (m - i)
        case measure => omega
        case rel => exact ⟨i, m, by omega, hm1, by omega, rfl, rfl, hlo, Lib.hid fun k d hk hd => hS.not_less he.out hd hl4 hk, by exact bel_, (hb1.cell (p := ⟨w.heap.size, 0, none⟩) hsz).trans hx0, (hb1.cell (p := ⟨w.heap.size, 1, none⟩) hsz).trans hx1, Nat.lt_of_lt_of_le hsz hb1.size⟩
      · go_wp2
        refine wp_region_ord [(0, .q), (1, .q), (2, .q), (3, .q), (4, .q), (5, .g)] (by kernel_rfl) (by kernel_rfl) ?_
        simp only [pick, List.filterMap_cons, List.filterMap_nil, List.getElem?_toArray, List.getElem?_cons_zero, List.getElem?_cons_succ, Option.map_some]
        repeat (first
          | ((with_reducible refine wpD_p (fun K hK => ?_)); go_simp; refine hK _ ?_; clear hK K)
          | ((with_reducible refine wpD_q (fun K hK => ?_)); go_simp; (first | refine hK _ ?_ | (go_bits; refine hK _ ?_) | (go_bits; go_simp; refine hK _ ?_)); clear hK K)
          | ((with_reducible refine wpD_g (fun K hK => ?_)); go_simp; refine hK _ _ ?_; clear hK K)
          | ((with_reducible refine wpD_g (fun K hK => ?_)); go_simp; refine ⟨Grew.of_alloc _, hK _ _ ?_⟩; clear hK K)
          | ((with_reducible refine wpD_g (fun K hK => ?_)); go_simp; go_at_call 47; refine (sLessPoint_at hl4).mono ?_; rintro e w1 ⟨rfl, hb1⟩; refine ⟨_, rfl, hb1, hK _ _ ?_⟩; clear hK K; obtain ⟨chb1, fhb1, shb1, thb1⟩ := bcell hb1))
        with_reducible refine wpD_nil ?_
        go_wp2
        go_roundg (j - (m + 1))
        case measure => omega
        case rel => exact ⟨m + 1, j, by omega, hm2, by omega, by go_num, rfl, Lib.hid fun k d hk hd => hS.less_of_less he.out hd hl4 (by omega), hhi, by exact bel_, (hb1.cell (p := ⟨w.heap.size, 0, none⟩) hsz).trans hx0, (hb1.cell (p := ⟨w.heap.size, 1, none⟩) hsz).trans hx1, Nat.lt_of_lt_of_le hsz hb1.size⟩
    · obtain rfl : i = j := by omega
      by_cases hin : i < n
      · obtain ⟨b, o, rfl, hb, hc⟩ := g2.ptr (by omega)
        obtain ⟨e, he⟩ := g2.get (k := i) (by omega)
        obtain ⟨c0, c1⟩ := hc i e he
        have he := Lib.hid he
        clear hc g2
        by_cases hxy : e.x = x ∧ e.y = y
        · obtain ⟨hx, hy⟩ := hxy
          subst hx hy
          have hP := Lib.hid (show decide ((⟨e.x, e.y⟩ : Pt) ∈ ps) = true from decide_eq_true (List.mem_of_getElem? he.out))
          go_wp2
          refine wp_region_ord [(0, .q), (1, .q), (2, .q), (3, .q), (4, .q), (5, .q), (6, .q), (7, .q), (8, .q), (9, .q), (10, .q), (11, .q), (12, .q)] (by kernel_rfl) (by kernel_rfl) ?_
          simp only [pick, List.filterMap_cons, List.filterMap_nil, List.getElem?_toArray, List.getElem?_cons_zero, List.getElem?_cons_succ, Option.map_some]
          repeat (first
            | ((with_reducible refine wpD_p (fun K hK => ?_)); go_simp; refine hK _ ?_; clear hK K)
            | ((with_reducible refine wpD_q (fun K hK => ?_)); go_simp; (first | refine hK _ ?_ | (go_bits; refine hK _ ?_) | (go_bits; go_simp; refine hK _ ?_)); clear hK K)
            | ((with_reducible refine wpD_g (fun K hK => ?_)); go_simp; refine hK _ _ ?_; clear hK K)
            | ((with_reducible refine wpD_g (fun K hK => ?_)); go_simp; refine ⟨Grew.of_alloc _, hK _ _ ?_⟩; clear hK K))
          with_reducible refine wpD_nil ?_
          go_wp2
          go_ret
          exact ⟨ret_bool hP.out.symm, by exact bel_⟩
        · have hP := Lib.hid (show decide ((⟨x, y⟩ : Pt) ∈ ps) = false from decide_eq_false (stop_no hS.sortedS hlo.out hhi.out (fun d hd => by rw [he.out] at hd; obtain rfl := Option.some.inj hd; exact hxy)))
          by_cases hx : e.x = x
          · have hy : ¬ e.y = y := fun h => hxy ⟨hx, h⟩
            subst hx
            have hy' : (e.y == y) = false := by simpa using hy
            go_wp2
            refine wp_region_ord [(0, .q), (1, .q), (2, .q), (3, .q), (4, .q), (5, .q), (6, .q), (7, .q), (8, .q), (9, .q), (10, .q), (11, .q), (12, .q)] (by kernel_rfl) (by kernel_rfl) ?_
            simp only [pick, List.filterMap_cons, List.filterMap_nil, List.getElem?_toArray, List.getElem?_cons_zero, List.getElem?_cons_succ, Option.map_some]
            repeat (first
              | ((with_reducible refine wpD_p (fun K hK => ?_)); go_simp; refine hK _ ?_; clear hK K)
              | ((with_reducible refine wpD_q (fun K hK => ?_)); go_simp; (first | refine hK _ ?_ | (go_bits; refine hK _ ?_) | (go_bits; go_simp; refine hK _ ?_)); clear hK K)
              | ((with_reducible refine wpD_g (fun K hK => ?_)); go_simp; refine hK _ _ ?_; clear hK K)
              | ((with_reducible refine wpD_g (fun K hK => ?_)); go_simp; refine ⟨Grew.of_alloc _, hK _ _ ?_⟩; clear hK K))
            with_reducible refine wpD_nil ?_
            go_wp2
            go_ret
            exact ⟨ret_bool hP.out.symm, by exact bel_⟩
          · have hx' : (e.x == x) = false := by simpa using hx
            go_wp2
            refine wp_region_ord [(0, .q), (1, .q), (2, .q), (3, .q), (4, .q), (5, .q), (6, .q), (7, .q), (8, .q), (9, .q), (10, .q), (11, .q), (12, .q)] (by kernel_rfl) (by kernel_rfl) ?_
            simp only [pick, List.filterMap_cons, List.filterMap_nil, List.getElem?_toArray, List.getElem?_cons_zero, List.getElem?_cons_succ, Option.map_some]
            repeat (first
              | ((with_reducible refine wpD_p (fun K hK => ?_)); go_simp; refine hK _ ?_; clear hK K)
              | ((with_reducible refine wpD_q (fun K hK => ?_)); go_simp; (first | refine hK _ ?_ | (go_bits; refine hK _ ?_) | (go_bits; go_simp; refine hK _ ?_)); clear hK K)
              | ((with_reducible refine wpD_g (fun K hK => ?_)); go_simp; refine hK _ _ ?_; clear hK K)
              | ((with_reducible refine wpD_g (fun K hK => ?_)); go_simp; refine ⟨Grew.of_alloc _, hK _ _ ?_⟩; clear hK K))
            with_reducible refine wpD_nil ?_
            go_wp2
            go_ret
            exact ⟨ret_bool hP.out.symm, by exact bel_⟩
      · have hP := Lib.hid (show decide ((⟨x, y⟩ : Pt) ∈ ps) = false from decide_eq_false (stop_no hS.sortedS hlo.out hhi.out (fun d hd => by have := lt_of_get hd; omega)))
        clear g2
        go_wp2
        refine wp_region_ord [(0, .q), (1, .q), (2, .q), (3, .q), (4, .q), (5, .q), (6, .q), (7, .q), (8, .q), (9, .q), (10, .q), (11, .q), (12, .q)] (by kernel_rfl) (by kernel_rfl) ?_
        simp only [pick, List.filterMap_cons, List.filterMap_nil, List.getElem?_toArray, List.getElem?_cons_zero, List.getElem?_cons_succ, Option.map_some]
        repeat (first
          | ((with_reducible refine wpD_p (fun K hK => ?_)); go_simp; refine hK _ ?_; clear hK K)
          | ((with_reducible refine wpD_q (fun K hK => ?_)); go_simp; (first | refine hK _ ?_ | (go_bits; refine hK _ ?_) | (go_bits; go_simp; refine hK _ ?_)); clear hK K)
          | ((with_reducible refine wpD_g (fun K hK => ?_)); go_simp; refine hK _ _ ?_; clear hK K)
          | ((with_reducible refine wpD_g (fun K hK => ?_)); go_simp; refine ⟨Grew.of_alloc _, hK _ _ ?_⟩; clear hK K))
        with_reducible refine wpD_nil ?_
        go_wp2
        go_ret
        exact ⟨ret_bool hP.out.symm, by exact bel_⟩
theorem l04Has_at {A : Option Addr} {n c : Nat} {ps : List Pt} {x y : Int} {r : Bool} {w : World} (h2 : RdSl 2 RPt w A n ps) (hS : Shp ps) (h5 : n ≤ 100000) (hr : decide ((⟨x, y⟩ : Pt) ∈ ps) = r) :
    Calls Try.prog 49 #[.slice A n c, .agg #[.int .i64 x, .int .i64 y]] w fun e w' => e = .returned (.bool r) ∧ Below w.heap.size w w' := hr ▸ l04Has_any A n c ps x y w h2 hS h5
end Go.Proofs.Ytkfjojpohcieeaa
/- Walks: the holes of a shape, the reference; HolesOf of both. -/




namespace Go.Proofs.Ytkfjojpohcieeaa
open Go.RowKit Go.Shelf
attribute [local go_sem] BelowBy.cell BelowBy.cell_drew stillUpon givesUpon

/-- the free points of the first i places of row j -/
def freeN (ps L : List Pt) : List Pt := L.filter fun p => !decide (p ∈ ps)
theorem freeN_snoc (ps L : List Pt) (e : Pt) : freeN ps (L ++ [e]) = freeN ps L ++ (if e ∈ ps then [] else [e]) := by
  unfold freeN
  rw [List.filter_append]
  by_cases h : e ∈ ps <;> simp [h]
theorem freeN_len (ps L : List Pt) : (freeN ps L).length ≤ L.length := List.length_filter_le _ _
/-- the parts of the first t that are kept -/
def holesN (ps : List Pt) (P : List (List Pt)) : List (List Pt) := P.filter fun l => !(l.any (edgeB ps))
theorem holesN_snoc (ps : List Pt) (P : List (List Pt)) (l : List Pt) : holesN ps (P ++ [l]) = holesN ps P ++ (if l.any (edgeB ps) then [] else [l]) := by
  unfold holesN
  rw [List.filter_append]
  cases h : l.any (edgeB ps) <;> simp [h]
def holR (ps : List Pt) : List (List Pt) × Int := if shapeB ps then (holesB ps, 0) else ([], 1)
/-- rows of points that the call has made, and a code -/
def RowsC (w : World) (r : List (List Pt) × Int) (e : Ending) (w' : World) : Prop :=
  ∃ A c us, e = .returned (.tuple #[.slice A r.1.length c, .int .i64 r.2]) ∧ Own2 w' w.heap.size 27 52 2 (.slice A r.1.length c) us (r.1.map ptCells) ∧ Below w.heap.size w w'
theorem shapeCode_at {A : Option Addr} {n c : Nat} {ps : List Pt} {r : Bool} {w : World} (h : RdSl 2 RPt w A n ps) (hn : n ≤ 1073741824) (hr : shapeB ps = r) :
    Calls Try.prog 28 #[.slice A n c, .bool true] w fun e w' => e = .returned (.int .i64 (if r then 0 else 1)) ∧ Below w.heap.size w w' := by
  have hH := Lib.hid h
  have hrH := Lib.hid hr
  clear h hr
  cases r
  · go_enter Try.func28, Try.ntmps28
    go_wp2_with (go_at_call 51; refine (ValidShape_any _ _ _ ps _ hH.out hn).mono ?_; rw [hrH.out]; rintro e w1 ⟨rfl, hb1⟩; have hb1H := Lib.hid hb1; clear hb1)
    go_ret
    exact ⟨rfl, hb1H.out⟩
  · go_enter Try.func28, Try.ntmps28
    go_wp2_with (go_at_call 51; refine (ValidShape_any _ _ _ ps _ hH.out hn).mono ?_; rw [hrH.out]; rintro e w1 ⟨rfl, hb1⟩; have hb1H := Lib.hid hb1; clear hb1)
    go_ret
    exact ⟨rfl, hb1H.out⟩
set_option maxHeartbeats 1000000 in
theorem HolesOf_any (A : Option Addr) (n c : Nat) (ps : List Pt) (w : World) (h : RdSl 2 RPt w A n ps) (hn : n ≤ 1073741824) :
    Calls Try.prog 9 #[.slice A n c] w (RowsC w (holR ps)) := by
  have hl := Lib.hid h.len
  have hH := Lib.hid h
  clear h
  cases hb : shapeB ps
  · have hR := Lib.hid (show holR ps = ([], 1) by unfold holR; rw [hb]; rfl)
    have hbH := Lib.hid hb
    clear hb
    go_enter Try.func9, Try.ntmps9
    go_wp2_with (go_at_call 28; refine (shapeCode_at hH.out hn hbH.out).mono ?_; rintro e w1 ⟨rfl, hb1⟩; have hb1H := Lib.hid hb1; clear hb1)
    go_ret2
    rw [hR.out]
    exact ⟨none, 0, [], rfl, Own2.nil _ _ _ _ _, hb1H.out⟩
  · have hR := Lib.hid (show holR ps = (holesB ps, 0) by unfold holR; rw [hb]; rfl)
    obtain ⟨hS, hp1, hp2⟩ := shp_of hb
    rw [hl.out] at hp1 hp2
    have hSH := Lib.hid hS
    have hbH := Lib.hid hb
    clear hb hS
    go_enter Try.func9, Try.ntmps9
    go_wp2_with (first
      | (go_at_call 28; refine (shapeCode_at hH.out hn hbH.out).mono ?_; rintro e w1 ⟨rfl, hb1⟩; have hb1H := Lib.hid hb1; clear hb1)
      | (go_at_call 29; refine (holes_any _ _ _ ps _ (hH.out.below RPt.stable hb1H.out) hSH.out (by omega) (by omega)).mono ?_; rintro e w2 ⟨A2, c2, us, rfl, hO2, hb2⟩; have hO2H := Lib.hid hO2; have hb2H := Lib.hid hb2; clear hO2 hb2))
    go_ret2
    rw [hR.out]
    exact ⟨A2, c2, us, rfl, hO2H.out.rebase hb1H.out.size, hb1H.out.trans (hb2H.out.mono hb1H.out.size)⟩
end Go.Proofs.Ytkfjojpohcieeaa
/- Walks: the holes of a shape, the reference. -/

namespace Go.Proofs.Ytkfjojpohcieeaa
open Go.RowKit Go.Shelf
attribute [local go_sem] BelowBy.cell BelowBy.cell_drew stillUpon givesUpon

/-- another outer row over some of the rows -/
theorem Own2.pick {w : World} {base base' : Nat} {T E : TypeId} {size : Nat} {v v' : Value} {us : List Value} {rows : List (List Value)} (h : Own2 w base T E size v us rows) (hb : base' ≤ base) {bs : List (Value × List Value)} (hbs : bs.Sublist (us.zip rows))
    (hout : w.ownsRow base' T 1 v' bs.length (bs.map (·.1))) (hoff : ∀ (k : Nat) (u : Value) (g : Nat), us[k]? = some u → u.ownBlock = some g → v'.ownBlock ≠ some g) : Own2 w base' T E size v' (bs.map (·.1)) (bs.map (·.2)) := by
  have hin : ∀ (k : Nat) (a : Value × List Value), bs[k]? = some a → ∃ i, us[i]? = some a.1 ∧ rows[i]? = some a.2 := fun k a ha => by
    have hm := hbs.subset (List.mem_of_getElem? ha)
    obtain ⟨i, hi⟩ := List.mem_iff_getElem?.1 hm
    rw [List.getElem?_zip_eq_some] at hi
    exact ⟨i, hi⟩
  have hpw : (us.zip rows).Pairwise fun a b => ∀ x, a.1.ownBlock = some x → b.1.ownBlock ≠ some x := by
    rw [List.pairwise_iff_getElem]
    intro i j hi hj hij x hx hy
    have ei := List.getElem?_eq_getElem hi
    have ej := List.getElem?_eq_getElem hj
    rw [List.getElem?_zip_eq_some] at ei ej
    have := h.apart i j _ _ x ei.1 ej.1 hx hy
    omega
  have hpb := hpw.sublist hbs
  have hlen : (bs.map (·.1)).length = bs.length := List.length_map _
  refine ⟨by rw [hlen]; exact hout, by rw [List.length_map, List.length_map], fun k u r hu hr => ?_, fun j k u u' x hj hk hx hx' => ?_, fun k u x hu hx => ?_⟩
  · rw [List.getElem?_map, Option.map_eq_some_iff] at hu hr
    obtain ⟨a, ha, rfl⟩ := hu
    obtain ⟨b, hb', rfl⟩ := hr
    rw [ha] at hb'
    injection hb' with hb'
    subst hb'
    obtain ⟨i, h1, h2⟩ := hin k a ha
    obtain ⟨m, hm⟩ := h.inner i _ _ h1 h2
    exact ⟨m, ownsRow_baseQ hm hb⟩
  · rw [List.getElem?_map, Option.map_eq_some_iff] at hj hk
    obtain ⟨a, ha, rfl⟩ := hj
    obtain ⟨b, hb', rfl⟩ := hk
    have la := lt_of_get ha
    have lb := lt_of_get hb'
    rw [List.getElem?_eq_getElem la] at ha
    rw [List.getElem?_eq_getElem lb] at hb'
    injection ha with ha
    injection hb' with hb'
    rw [List.pairwise_iff_getElem] at hpb
    rcases Nat.lt_trichotomy j k with hlt | heq | hlt
    · exact absurd hx' (hb' ▸ hpb j k la lb hlt x (ha ▸ hx))
    · exact heq
    · exact absurd hx (ha ▸ hpb k j lb la hlt x (hb' ▸ hx'))
  · rw [List.getElem?_map, Option.map_eq_some_iff] at hu
    obtain ⟨a, ha, rfl⟩ := hu
    obtain ⟨i, h1, h2⟩ := hin k a ha
    exact hoff i _ x h1 hx
/-- of the first t, those kept -/
def keptR (ps : List Pt) (us : List Value) (P : List (List Pt)) (t : Nat) : List SlR := ((prsR us P).take t).filter fun e => !(e.2.any (edgeB ps))
theorem keptR_yes {ps : List Pt} {us : List Value} {P : List (List Pt)} {t : Nat} {u : Value} {l : List Pt} (hu : us[t]? = some u) (hl : P[t]? = some l) (h : l.any (edgeB ps) = false) : keptR ps us P (t + 1) = keptR ps us P t ++ [(u, l)] := by
  have : (prsR us P)[t]? = some (u, l) := by unfold prsR; rw [List.getElem?_zip_eq_some]; exact ⟨hu, hl⟩
  unfold keptR
  rw [List.take_add_one, this, List.filter_append]
  simp [h]
theorem keptR_no {ps : List Pt} {us : List Value} {P : List (List Pt)} {t : Nat} {u : Value} {l : List Pt} (hu : us[t]? = some u) (hl : P[t]? = some l) (h : l.any (edgeB ps) = true) : keptR ps us P (t + 1) = keptR ps us P t := by
  have : (prsR us P)[t]? = some (u, l) := by unfold prsR; rw [List.getElem?_zip_eq_some]; exact ⟨hu, hl⟩
  unfold keptR
  rw [List.take_add_one, this, List.filter_append]
  simp [h]
theorem keptR_len (ps : List Pt) (us : List Value) (P : List (List Pt)) (t : Nat) : (keptR ps us P t).length ≤ t := Nat.le_trans (List.length_filter_le _ _) (List.length_take_le _ _)
set_option maxRecDepth 100000 in
set_option maxHeartbeats 8000000 in
theorem l04Holes_any (A : Option Addr) (n c : Nat) (ps : List Pt) (w : World) (h : RdSl 2 RPt w A n ps) (hS : Shp ps) (hn0 : 0 < n) (hn : n ≤ 100000) :
    Calls Try.prog 26 #[.slice A n c] w (RowsR w (holesB ps)) := by
  obtain ⟨i0, hi, hz0, hz1, hz2⟩ := info_parts infoPtQ
  obtain ⟨i1, hi', hz0', hz1', hz2'⟩ := info_parts infoPtsQ
  have hl := Lib.hid h.len
  have hH := Lib.hid h
  have hSH := Lib.hid hS
  have hn0' : 0 < ps.length := by rw [hl.out]; exact hn0
  have hbx : bxN ps n = boxB ps := by unfold boxB; rw [hl.out]
  have hwd := Lib.hid (wdB_eq hS hn0')
  have hrng := Lib.hid (boxB_rng hS hn0')
  have hrlH := Lib.hid (rectB_len hS hn0')
  have hfl := Lib.hid (freeB_len hS hn0')
  have hfS := Lib.hid (freeB_shp hS hn0')
  have hbxH := Lib.hid hbx
  have hn0H := Lib.hid hn0'
  have hedge := Lib.hid (fun (l : List Pt) (hl : l ∈ partsP (freeB ps)) => edge_box hS hn0' hl)
  have hrB := Lib.hid (show rectB ps = rectP (boxB ps).lx (boxB ps).ly (wdB ps) (htB ps) from rfl)
  have hhB := Lib.hid (show holesB ps = (partsP (freeB ps)).filter (fun l => !(l.any (edgeB ps))) from rfl)
  have hfB := Lib.hid (show freeB ps = freeN ps (rectB ps) from rfl)
  obtain ⟨B, hB⟩ : ∃ B, boxB ps = B := ⟨_, rfl⟩
  obtain ⟨W, hW⟩ : ∃ W, wdB ps = W := ⟨_, rfl⟩
  obtain ⟨Hh, hHh⟩ : ∃ Hh, htB ps = Hh := ⟨_, rfl⟩
  rw [hB, hW, hHh] at hwd hrB
  rw [hB] at hrng hbxH hedge
  obtain ⟨w1', w2', w3', w4', w5', w6'⟩ := hwd.out
  obtain ⟨lx, ly, hx, hy⟩ := B
  simp only at w1' w2' hedge hrB
  have hrng2 := hrng.out
  simp only at hrng2
  have hBH := Lib.hid hB
  have hw1H := Lib.hid w1'
  have hw2H := Lib.hid w2'
  clear h hS hbx hn0' hB hW hHh w1' w2' hrng hwd
  go_enter Try.func26, Try.ntmps26
  go_wp2_with fail
  refine (l03Bounds_any hH.out hn0 hn).mono ?_
  rw [hbxH.out]
  rintro e w1 ⟨rfl, hb1⟩
  have hb1H := Lib.hid hb1
  clear hb1
  go_wp2
  have b0 : (((w1.alloc (Obj.cells #[.int .i64 lx, .int .i64 ly] 52)).alloc (Obj.cells #[.int .i64 hx, .int .i64 hy] 52)).alloc (Obj.cells #[] 52)).cell? ⟨w1.heap.size, 0, none⟩ = some (.int .i64 lx) := by go_simp
  have b1 : (((w1.alloc (Obj.cells #[.int .i64 lx, .int .i64 ly] 52)).alloc (Obj.cells #[.int .i64 hx, .int .i64 hy] 52)).alloc (Obj.cells #[] 52)).cell? ⟨w1.heap.size, 1, none⟩ = some (.int .i64 ly) := by go_simp
  have b2 : (((w1.alloc (Obj.cells #[.int .i64 lx, .int .i64 ly] 52)).alloc (Obj.cells #[.int .i64 hx, .int .i64 hy] 52)).alloc (Obj.cells #[] 52)).cell? ⟨w1.heap.size + 1, 0, none⟩ = some (.int .i64 hx) := by go_simp
  have b3 : (((w1.alloc (Obj.cells #[.int .i64 lx, .int .i64 ly] 52)).alloc (Obj.cells #[.int .i64 hx, .int .i64 hy] 52)).alloc (Obj.cells #[] 52)).cell? ⟨w1.heap.size + 1, 1, none⟩ = some (.int .i64 hy) := by go_simp
  have hs2 : (((w1.alloc (Obj.cells #[.int .i64 lx, .int .i64 ly] 52)).alloc (Obj.cells #[.int .i64 hx, .int .i64 hy] 52)).alloc (Obj.cells #[] 52)).heap.size = w1.heap.size + 3 := by simp
  have hbW : Below w1.heap.size w1 (((w1.alloc (Obj.cells #[.int .i64 lx, .int .i64 ly] 52)).alloc (Obj.cells #[.int .i64 hx, .int .i64 hy] 52)).alloc (Obj.cells #[] 52)) := bl_al (bl_al (bl_al (bl_refl _) _) _) _
  have hO0 : (((w1.alloc (Obj.cells #[.int .i64 lx, .int .i64 ly] 52)).alloc (Obj.cells #[.int .i64 hx, .int .i64 hy] 52)).alloc (Obj.cells #[] 52)).ownsRow (w1.heap.size + 2) 52 2 (.slice (some ⟨w1.heap.size + 2, 0, none⟩) 0 0) 0 [] := by
    have := World.ownsRow_made (base := w1.heap.size + 2) (e := 52) (size := 2) ((w1.alloc (Obj.cells #[.int .i64 lx, .int .i64 ly] 52)).alloc (Obj.cells #[.int .i64 hx, .int .i64 hy] 52)) #[] 0 (by simp) (by decide) rfl
    simpa using this
  obtain ⟨W2, hW2⟩ : ∃ W2, (((w1.alloc (Obj.cells #[.int .i64 lx, .int .i64 ly] 52)).alloc (Obj.cells #[.int .i64 hx, .int .i64 hy] 52)).alloc (Obj.cells #[] 52)) = W2 := ⟨_, rfl⟩
  rw [hW2] at b0 b1 b2 b3 hs2 hbW hO0 ⊢
  have hs2H := Lib.hid hs2
  have hbWH := Lib.hid hbW
  have hO0H := Lib.hid hO0
  have hs2l : w1.heap.size + 3 ≤ W2.heap.size := by omega
  clear hW2 hs2 hbW hO0
  go_loopg [5, 6] Hh (fun g v y wr => ∃ (j : Nat), j + g = Hh ∧ y = .int .i64 (ly + (j : Int)) ∧ Hid (wr.ownsRow (w1.heap.size + 2) 52 2 v (freeN ps (rectP lx ly W j)).length (ptCells (freeN ps (rectP lx ly W j)))) ∧ Hid (Below (w1.heap.size + 2) W2 wr))
  case atStart => exact ⟨0, by omega, by go_num, Lib.hid (by simpa [rectP, freeN, ptCells] using hO0H.out), Lib.hid (Below.refl _ _)⟩
  case round =>
    obtain ⟨j, hj, rfl, hO, hbw⟩ := hrel
    have hszl := hbw.out.size
    have c3 := (hbw.out.cell (p := ⟨w1.heap.size + 1, 1, none⟩) (by simp)).trans b3
    have c0 := (hbw.out.cell (p := ⟨w1.heap.size, 0, none⟩) (by simp)).trans b0
    have l1 : w1.heap.size + 1 < wr.heap.size := by omega
    have l0 : w1.heap.size < wr.heap.size := by omega
    by_cases hjH : j < Hh
    · have hle : ly + (j : Int) ≤ hy := by have := hw2H.out; omega
      obtain ⟨y, hy'⟩ : ∃ y, ly + (j : Int) = y := ⟨_, rfl⟩
      have hyr : -1000 ≤ y ∧ y ≤ 1200 := by omega
      rw [hy']
      rw [hy'] at hle
      have hyH := Lib.hid hy'
      clear hy'
      obtain ⟨wo, hwo⟩ : ∃ wo : World, wo = wr := ⟨_, rfl⟩
      subst hwo
      go_wp2
      go_loopg [5, 7] W (fun g v x wz => ∃ (i : Nat), i + g = W ∧ x = .int .i64 (lx + (i : Int)) ∧ Hid (wz.ownsRow (w1.heap.size + 2) 52 2 v (freeN ps (rectP lx ly W j ++ rowP lx y i)).length (ptCells (freeN ps (rectP lx ly W j ++ rowP lx y i)))) ∧ Hid (Below (w1.heap.size + 2) W2 wz))
      case atStart => exact ⟨0, by omega, by go_num, Lib.hid (by simpa [rowP_zero] using hO.out), hbw⟩
      case round =>
        clear c0 c3 l0 l1
        obtain ⟨i, hi'', rfl, hR, hbz⟩ := hrel
        have hszz := hbz.out.size
        have c2 := (hbz.out.cell (p := ⟨w1.heap.size + 1, 0, none⟩) (by simp)).trans b2
        have l1 : w1.heap.size + 1 < wr.heap.size := by omega
        obtain ⟨A1, cp, rfl⟩ := ownsRow_form hR.out
        by_cases hiW : i < W
        · have hle2 : lx + (i : Int) ≤ hx := by have := hw1H.out; omega
          obtain ⟨x, hx'⟩ : ∃ x, lx + (i : Int) = x := ⟨_, rfl⟩
          have hxr : -1000 ≤ x ∧ x ≤ 1200 := by omega
          have hsn := freeN_snoc ps (rectP lx ly W j ++ rowP lx y i) ⟨x, y⟩
          have hrs : rectP lx ly W j ++ rowP lx y (i + 1) = (rectP lx ly W j ++ rowP lx y i) ++ [⟨x, y⟩] := by rw [rowP_succ, hx', List.append_assoc]
          rw [← hrs] at hsn
          have hlen : (freeN ps (rectP lx ly W j ++ rowP lx y i)).length ≤ 14641 := by
            refine Nat.le_trans (freeN_len _ _) ?_
            rw [List.length_append, rectP_len, rowP_len]
            have h1 : j * W ≤ 120 * 121 := Nat.mul_le_mul (by omega) w4'
            omega
          obtain ⟨F, hF⟩ : ∃ F, freeN ps (rectP lx ly W j ++ rowP lx y i) = F := ⟨_, rfl⟩
          rw [hF] at hR hsn hlen ⊢
          obtain ⟨m, hm⟩ : ∃ m, F.length = m := ⟨_, rfl⟩
          rw [hm] at hR hlen ⊢
          have hmH := Lib.hid hm
          rw [hx']
          rw [hx'] at hle2
          have hxH := Lib.hid hx'
          clear hx' hrs hF hm
          have hwz : Below w.heap.size w wr := (hb1H.out.trans (hbWH.out.mono hb1H.out.size)).trans (hbz.out.mono (by have := hb1H.out.size; omega))
          have hAz := Lib.hid (hH.out.below RPt.stable hwz)
          clear hwz
          by_cases hin : (⟨x, y⟩ : Pt) ∈ ps
          · rw [if_pos hin, List.append_nil] at hsn
            have hsnH := Lib.hid hsn
            have hdH := Lib.hid (decide_eq_true hin)
            clear hsn hin
            go_wp2_with (go_at_call 49; refine (l04Has_at (hAz.out.below RPt.stable (by exact bel_)) hSH.out hn hdH.out).mono ?_; rintro e w3 ⟨rfl, hb3⟩; have hb3H := Lib.hid (show Below wr.heap.size wr w3 from (bl_al (bl_refl wr) _).trans (hb3.mono (by simp))); clear hb3)
            go_roundg (W - (i + 1))
            case measure => omega
            case rel => exact ⟨i + 1, by omega, by rw [← hxH.out]; go_num, Lib.hid (by rw [hsnH.out, hmH.out]; exact ownsRow_below hR.out hb3H.out), Lib.hid (hbz.out.trans (hb3H.out.mono (by omega)))⟩
          · rw [if_neg hin] at hsn
            have hsnH := Lib.hid hsn
            have hdH := Lib.hid (decide_eq_false hin)
            clear hsn hin
            go_wp2_with (first
              | (go_at_call 49; refine (l04Has_at (hAz.out.below RPt.stable (by exact bel_)) hSH.out hn hdH.out).mono ?_; rintro e w3 ⟨rfl, hb3⟩; have x0 : w3.cell? ⟨wr.heap.size, 0, none⟩ = some (.int .i64 x) := (hb3.cell (p := ⟨wr.heap.size, 0, none⟩) (by simp)).trans (by go_simp); have x1 : w3.cell? ⟨wr.heap.size, 1, none⟩ = some (.int .i64 y) := (hb3.cell (p := ⟨wr.heap.size, 1, none⟩) (by simp)).trans (by go_simp); have hs3 := hb3.size; have hs3' : wr.heap.size < w3.heap.size := (by simp at hs3; omega); have hb3H := Lib.hid (show Below wr.heap.size wr w3 from (bl_al (bl_refl wr) _).trans (hb3.mono (by simp))); clear hb3)
              | (at_builtin; refine wpList_append_own_at _ rfl _ _ 27 rfl (w1.heap.size + 2) 52 i0 (.agg #[.int .i64 0, .int .i64 0]) 2 16 Try.underlying27 hi hz0 hz1 hz2 rfl (by decide) (.slice A1 m cp) m (ptCells F) rfl ((ownsRow_below hR.out hb3H.out).alloc _) ⟨w3.heap.size, 0, none⟩ 1 1 [.int .i64 x, .int .i64 y] rfl rfl (cell_pt2 _ _ _ _) (fun x hx => by simp at hx; rcases hx with rfl | rfl <;> rfl) (by unfold maxLen; omega) (by omega) (by simp; omega) ?_; intro v5 w5 hown5 hgrow5 _ hat5; have hown5H := Lib.hid hown5; have hgrow5H := Lib.hid hgrow5; clear hown5 hgrow5 hat5))
            go_roundg (W - (i + 1))
            case measure => omega
            case rel =>
              refine ⟨i + 1, by omega, by rw [← hxH.out]; go_num, Lib.hid ?_, Lib.hid ?_⟩
              · rw [hsnH.out, ptCells_snoc, List.length_append, hmH.out]; exact hown5H.out
              · exact (hbz.out.trans (hb3H.out.mono (by omega))).trans (below_app (by omega) (fun g e => (hR.out.lt g e).1) hgrow5H.out)
        · obtain rfl : i = W := by omega
          have hle2 : ¬ lx + (i : Int) ≤ hx := by have := hw1H.out; omega
          go_wp2
          go_roundg (Hh - (j + 1))
          case measure => omega
          case rel =>
            refine ⟨j + 1, by omega, by rw [← hyH.out]; go_num, Lib.hid ?_, hbz⟩
            simp only [rectP]
            rw [hyH.out]
            exact hR.out
    · obtain rfl : j = Hh := by omega
      have hle : ¬ ly + (j : Int) ≤ hy := by have := hw2H.out; omega
      have hF1 := hO.out
      rw [← hrB.out, ← hfB.out] at hF1
      obtain ⟨A1, cp, rfl⟩ := ownsRow_form hF1
      have hrdF := Lib.hid (rdPts hF1 rfl)
      have hwz : Below w.heap.size w wr := (hb1H.out.trans (hbWH.out.mono hb1H.out.size)).trans (hbw.out.mono (by have := hb1H.out.size; omega))
      have hwzH := Lib.hid hwz
      have c1 := (hbw.out.cell (p := ⟨w1.heap.size, 1, none⟩) (by simp)).trans b1
      have c2 := (hbw.out.cell (p := ⟨w1.heap.size + 1, 0, none⟩) (by simp)).trans b2
      have c0H := Lib.hid c0
      have c1H := Lib.hid c1
      have c2H := Lib.hid c2
      have c3H := Lib.hid c3
      obtain ⟨PS, hPS⟩ : ∃ PS, partsP (freeB ps) = PS := ⟨_, rfl⟩
      have hPl := partsP_len (freeB ps)
      have hPe : Hid (∀ l ∈ PS, 0 < l.length ∧ l.length ≤ 14641) := Lib.hid (fun l hl => by
        rw [← hPS] at hl
        exact ⟨partsP_pos hl, Nat.le_trans (partsP_mem hl).2 hfl.out⟩)
      rw [hPS] at hPl
      have hPS' := Lib.hid hPS
      obtain ⟨cN, hcN⟩ : ∃ cN, PS.length = cN := ⟨_, rfl⟩
      rw [hcN] at hPl
      have hcNH := Lib.hid hcN
      have hcNb : cN ≤ 14641 := by have := hfl.out; omega
      clear hwz hF1 hO c0 c1 c2 b0 b1 b2 b3 hPS hcN
      go_wp2_with (go_at_call 50; (refine (l04Parts_any _ (freeB ps).length cp (freeB ps) _ hrdF.out hfS.out (by have := hfl.out; omega)).mono ?_; rintro e w3 ⟨v3, us3, rfl, hO3, hb3⟩; rw [rowsQ_parts, hPS'.out] at hO3; have hu3 : us3.length = cN := (by rw [hO3.len, List.length_map, hcNH.out]); obtain ⟨A3, cq3, rfl⟩ := hO3.form hu3; have hs3 := hb3.size; have hu3H := Lib.hid hu3; have hO3H := Lib.hid hO3; have hb3H := Lib.hid hb3; clear hO3 hb3 hu3))
      have d0 := (hb3H.out.cell (p := ⟨w1.heap.size, 0, none⟩) l0).trans c0H.out
      have d1 := (hb3H.out.cell (p := ⟨w1.heap.size, 1, none⟩) l0).trans c1H.out
      have d2 := (hb3H.out.cell (p := ⟨w1.heap.size + 1, 0, none⟩) l1).trans c2H.out
      have d3 := (hb3H.out.cell (p := ⟨w1.heap.size + 1, 1, none⟩) l1).trans c3H.out
      have d0H := Lib.hid d0
      have d1H := Lib.hid d1
      have d2H := Lib.hid d2
      have d3H := Lib.hid d3
      have e0 : w1.heap.size < w3.heap.size := by omega
      have e1 : w1.heap.size + 1 < w3.heap.size := by omega
      clear d0 d1 d2 d3 c0H c1H c2H c3H c3
      go_loopg [11, 10] cN (fun g i v wy => ∃ (t : Nat), t + g = cN ∧ i = .int .i64 (t : Int) ∧ Hid (wy.ownsRow w3.heap.size 27 1 v (keptR ps us3 PS t).length ((keptR ps us3 PS t).map (·.1))) ∧ Hid (Below w3.heap.size w3 wy))
      case atStart => exact ⟨0, by omega, rfl, Lib.hid (World.ownsRow_made _ _ _ (Nat.le_refl _) (by decide) rfl), Lib.hid (bl_al (bl_refl _) _)⟩
      case round =>
        obtain ⟨t, ht, rfl, hR, hby⟩ := hrel
        have hszy := hby.out.size
        obtain ⟨A4, c4, rfl⟩ := ownsRow_form hR.out
        have hkl := keptR_len ps us3 PS t
        by_cases htc : t < cN
        · obtain ⟨l, hl'⟩ : ∃ l, PS[t]? = some l := ⟨_, List.getElem?_eq_getElem (by rw [hcNH.out]; exact htc)⟩
          obtain ⟨u, hu⟩ : ∃ u, us3[t]? = some u := ⟨_, List.getElem?_eq_getElem (by rw [hu3H.out]; exact htc)⟩
          have hlm := List.mem_of_getElem? hl'
          have hle := hPe.out l hlm
          have hed := hedge.out l (by rw [hPS'.out]; exact hlm)
          obtain ⟨g1, cap1, hv⟩ := hO3H.out.formPos hu3H.out (by omega)
          injection hv with hv1 hv2 hv3
          subst hv1 hv3
          clear hv2
          obtain ⟨m, r', hr', hown0⟩ := hO3H.out.get hu
          rw [List.getElem?_map, hl'] at hr'
          simp only [Option.map_some, Option.some.injEq] at hr'
          subst hr'
          obtain ⟨Au, capu, rfl⟩ := ownsRow_form hown0
          have hm := hown0.1
          rw [ptCells_len] at hm
          obtain rfl : l.length = m := by omega
          have k1 := hO3H.out.cellAt hu3H.out hu
          have k2 := (hby.out.cell (p := ⟨g1, t, none⟩) k1.2.2).trans k1.1
          have hg2 : g1 < wr.heap.size := Nat.lt_of_lt_of_le k1.2.2 hszy
          have hrd := Lib.hid ((rdPts hown0 rfl).below RPt.stable hby.out)
          have d0 := (hby.out.cell (p := ⟨w1.heap.size, 0, none⟩) e0).trans d0H.out
          have d1 := (hby.out.cell (p := ⟨w1.heap.size, 1, none⟩) e0).trans d1H.out
          have d2 := (hby.out.cell (p := ⟨w1.heap.size + 1, 0, none⟩) e1).trans d2H.out
          have d3 := (hby.out.cell (p := ⟨w1.heap.size + 1, 1, none⟩) e1).trans d3H.out
          have f0 : w1.heap.size < wr.heap.size := by omega
          have f1 : w1.heap.size + 1 < wr.heap.size := by omega
          have hyes := Lib.hid (fun (h : l.any (edgeB ps) = false) => keptR_yes hu hl' h)
          have hno := Lib.hid (fun (h : l.any (edgeB ps) = true) => keptR_no hu hl' h)
          obtain ⟨Bl, hBl⟩ : ∃ Bl, bxN l l.length = Bl := ⟨_, rfl⟩
          rw [hBl] at hed
          have hBlH := Lib.hid hBl
          obtain ⟨ax, ay, bx, bY⟩ := Bl
          simp only at hed
          obtain ⟨M, hM⟩ : ∃ M, (keptR ps us3 PS t).length = M := ⟨_, rfl⟩
          rw [hM] at hR hkl ⊢
          have hMH := Lib.hid hM
          clear hl' hu hown0 k1 hm hlm hBl hM
          by_cases hall : (lx < ax ∧ ly < ay) ∧ bx < hx ∧ bY < hy
          · have hany : l.any (edgeB ps) = false := by
              rw [decide_eq_true hall] at hed
              simpa using hed
            have hsu := Lib.hid (hyes.out hany)
            obtain ⟨⟨t1, t2⟩, t3, t4⟩ := hall
            clear hed hany
            go_wp2_with (first
              | (go_at_call 48; refine (l03Bounds_any hrd.out hle.1 (by omega)).mono ?_; rw [hBlH.out]; rintro e w5 ⟨rfl, hb5⟩; obtain ⟨q0, q1, q2, q3⟩ := bcell hb5; have hs5 := hb5.size; have hb5H := Lib.hid hb5; clear hb5; have h0 := (q0 w1.heap.size 0 f0).trans d0; have h1 := (q0 w1.heap.size 1 f0).trans d1; have h2 := (q0 (w1.heap.size + 1) 0 f1).trans d2; have h3 := (q0 (w1.heap.size + 1) 1 f1).trans d3; have h4 := (q0 g1 t hg2).trans k2; have h5 : w1.heap.size < w5.heap.size := (by omega); have h6 : w1.heap.size + 1 < w5.heap.size := (by omega); have h7 : g1 < w5.heap.size := (by omega))
              | (at_builtin; (refine wpList_append_own_at _ rfl _ _ 24 rfl w3.heap.size 27 i1 (.slice none 0 0) 1 24 Try.underlying24 hi' hz0' hz1' hz2' rfl (by decide) (.slice A4 M c4) M ((keptR ps us3 PS t).map (·.1)) rfl ((((ownsRow_below hR.out hb5H.out).alloc _).alloc _).alloc _) ⟨w5.heap.size + 2, 0, none⟩ 1 1 [.slice Au l.length capu] rfl rfl (by have := cell_one_new ((w5.alloc (Obj.cells #[.int .i64 ax, .int .i64 ay] 52)).alloc (Obj.cells #[.int .i64 bx, .int .i64 bY] 52)) (.slice Au l.length capu) 27; simpa using this) (fun x hx => by simp at hx; subst hx; rfl) (by unfold maxLen; omega) (by omega) (by simp; omega) ?_; intro v7 w7 hown7 hgrow7 _ hat7; have hown7H := Lib.hid hown7; have hgrow7H := Lib.hid hgrow7; clear hown7 hgrow7 hat7)))
            go_roundg (cN - (t + 1))
            case measure => omega
            case rel =>
              refine ⟨t + 1, by omega, by go_num, Lib.hid ?_, Lib.hid ?_⟩
              · rw [hsu.out, List.length_append, List.map_append, hMH.out]
                exact hown7H.out
              · have b1 : Below w3.heap.size w3 w5 := hby.out.trans (hb5H.out.mono hszy)
                exact (((b1.alloc (by omega) _).alloc (by simp; omega) _).alloc (by simp; omega) _).grown hgrow7H.out (by simp; omega) (fun g e => (hR.out.lt g e).1)
          · have hany : l.any (edgeB ps) = true := by
              rw [decide_eq_false hall] at hed
              simpa using hed
            have hsu := Lib.hid (hno.out hany)
            have hways : ¬ (ax > lx) ∨ (ax > lx ∧ ¬ (ay > ly)) ∨ (ax > lx ∧ ay > ly ∧ ¬ (bx < hx)) ∨ (ax > lx ∧ ay > ly ∧ bx < hx ∧ ¬ (bY < hy)) := by omega
            clear hed hany hall
            rcases hways with h' | ⟨h1', h'⟩ | ⟨h1', h2', h'⟩ | ⟨h1', h2', h3', h'⟩
            all_goals
              have hfal := decide_eq_false h'
              go_wp2_with (go_at_call 48; refine (l03Bounds_any hrd.out hle.1 (by omega)).mono ?_; rw [hBlH.out]; rintro e w5 ⟨rfl, hb5⟩; obtain ⟨q0, q1, q2, q3⟩ := bcell hb5; have hs5 := hb5.size; have hb5H := Lib.hid hb5; clear hb5; have h0 := (q0 w1.heap.size 0 f0).trans d0; have h1 := (q0 w1.heap.size 1 f0).trans d1; have h2 := (q0 (w1.heap.size + 1) 0 f1).trans d2; have h3 := (q0 (w1.heap.size + 1) 1 f1).trans d3; have h5 : w1.heap.size < w5.heap.size := (by omega); have h6 : w1.heap.size + 1 < w5.heap.size := (by omega))
              go_roundg (cN - (t + 1))
              case measure => omega
              case rel =>
                exact ⟨t + 1, by omega, by go_num, Lib.hid (by rw [hsu.out, hMH.out]; exact ((ownsRow_below hR.out hb5H.out).alloc _).alloc _), Lib.hid (((hby.out.trans (hb5H.out.mono hszy)).alloc (by omega) _).alloc (by simp; omega) _)⟩
        · obtain rfl : t = cN := by omega
          have hkk : Hid (keptR ps us3 PS t = (prsR us3 PS).filter fun e => !(e.2.any (edgeB ps))) := Lib.hid (by
            unfold keptR
            rw [List.take_of_length_le]
            rw [prsR_len (by rw [hu3H.out, hcNH.out]), hcNH.out]
            exact Nat.le_refl _)
          have hlen2 : Hid ((keptR ps us3 PS t).length = (holesB ps).length) := Lib.hid (by
            rw [hkk.out, hhB.out, hPS'.out, ← prsR_keep (us := us3) (by rw [hu3H.out, hcNH.out]) (fun l => !(l.any (edgeB ps))), List.length_map])
          go_wp2
          go_ret
          refine ⟨A4, c4, (keptR ps us3 PS t).map (·.1), by rw [← hlen2.out]; rfl, ?_, hwzH.out.trans ((hb3H.out.trans (hby.out.mono hs3)).mono (by have := hwzH.out.size; omega))⟩
          rw [← hlen2.out]
          have h1 := Own2.pick (base' := w.heap.size) (v' := .slice A4 (keptR ps us3 PS t).length c4) (hO3H.out.below hby.out) (by have := hwzH.out.size; omega) (bs := (keptR ps us3 PS t).map fun e => (e.1, ptCells e.2)) ?_ ?_ ?_
          · rw [List.map_map, List.map_map] at h1
            rw [hhB.out, hPS'.out, ← prsR_keep (us := us3) (by rw [hu3H.out, hcNH.out]) (fun l => !(l.any (edgeB ps))), ← hkk.out, List.map_map]
            exact h1
          · have : us3.zip (PS.map ptCells) = (prsR us3 PS).map fun e => (e.1, ptCells e.2) := by
              unfold prsR
              rw [List.zip_map_right]
              rfl
            rw [this]
            exact List.Sublist.map _ (by unfold keptR; exact List.Sublist.trans List.filter_sublist (List.take_sublist _ _))
          · rw [List.map_map, List.length_map]
            exact ownsRow_baseQ hR.out (by have := hwzH.out.size; omega)
          · intro k u g hk hg e
            have h2 := (hR.out.lt g e).1
            have h3 := (hO3H.out.ltIn hk g hg).2
            omega
end Go.Proofs.Ytkfjojpohcieeaa
/- Walks: HolesOf of the reference; the holes are few. -/


namespace Go.Proofs.Ytkfjojpohcieeaa
open Go.RowKit Go.Shelf
attribute [local go_sem] BelowBy.cell BelowBy.cell_drew stillUpon givesUpon

theorem holR_smallS (ps : List Pt) : SmallPointSS (holR ps).1 := by
  cases hb : shapeB ps
  · have : holR ps = ([], 1) := by unfold holR; rw [hb]; rfl
    rw [this]
    exact ⟨by simp, fun r hr => by simp at hr, by simp⟩
  · have : holR ps = (holesB ps, 0) := by unfold holR; rw [hb]; rfl
    rw [this]
    obtain ⟨hS, hp1, hp2⟩ := shp_of hb
    obtain ⟨h1, h2⟩ := holesB_few hS (by omega)
    have h3 := sum_le_mul ((holesB ps).map List.length) 14641 (fun m hm => by
      obtain ⟨r, hr, rfl⟩ := List.mem_map.1 hm
      exact h2 r hr)
    rw [List.length_map] at h3
    have h4 : (holesB ps).length * 14641 ≤ 14641 * 14641 := Nat.mul_le_mul_right _ h1
    exact ⟨by simp only; omega, fun r hr => by have := h2 r hr; omega, by simp only; omega⟩
set_option maxHeartbeats 1000000 in
theorem sHolesOf_any (A : Option Addr) (n c : Nat) (ps : List Pt) (w : World) (h : RdSl 2 RPt w A n ps) (hn : n ≤ 1073741824) :
    Calls Try.prog 7 #[.slice A n c] w (RowsC w (holR ps)) := by
  have hl := Lib.hid h.len
  have hH := Lib.hid h
  clear h
  cases hb : shapeB ps
  · have hR := Lib.hid (show holR ps = ([], 1) by unfold holR; rw [hb]; rfl)
    have hbH := Lib.hid hb
    clear hb
    go_enter Try.func7, Try.ntmps7
    go_wp2_with (go_at_call 25; refine (l04Ok_any _ _ _ ps _ hH.out hn).mono ?_; rw [hbH.out]; rintro e w1 ⟨rfl, hb1⟩; have hb1H := Lib.hid hb1; clear hb1)
    go_ret2
    rw [hR.out]
    exact ⟨none, 0, [], rfl, Own2.nil _ _ _ _ _, hb1H.out⟩
  · have hR := Lib.hid (show holR ps = (holesB ps, 0) by unfold holR; rw [hb]; rfl)
    obtain ⟨hS, hp1, hp2⟩ := shp_of hb
    rw [hl.out] at hp1 hp2
    have hSH := Lib.hid hS
    have hbH := Lib.hid hb
    clear hb hS
    go_enter Try.func7, Try.ntmps7
    go_wp2_with (first
      | (go_at_call 25; refine (l04Ok_any _ _ _ ps _ hH.out hn).mono ?_; rw [hbH.out]; rintro e w1 ⟨rfl, hb1⟩; have hb1H := Lib.hid hb1; clear hb1)
      | (go_at_call 26; refine (l04Holes_any _ _ _ ps _ (hH.out.below RPt.stable hb1H.out) hSH.out (by omega) (by omega)).mono ?_; rintro e w2 ⟨A2, c2, us, rfl, hO2, hb2⟩; have hO2H := Lib.hid hO2; have hb2H := Lib.hid hb2; clear hO2 hb2))
    go_ret2
    rw [hR.out]
    exact ⟨A2, c2, us, rfl, hO2H.out.rebase hb1H.out.size, hb1H.out.trans (hb2H.out.mono hb1H.out.size)⟩
end Go.Proofs.Ytkfjojpohcieeaa
