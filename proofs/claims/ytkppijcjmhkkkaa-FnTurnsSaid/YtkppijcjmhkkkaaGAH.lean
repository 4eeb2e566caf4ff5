import Derived.Test.YtkppijcjmhkkkaaGAB
import Derived.Test.YtkppijcjmhkkkaaGAE
set_option linter.unusedSimpArgs false
set_option linter.unusedVariables false
/- Words on rows of points; a point put to its place in a list. -/


namespace Go.Proofs.Ytkppijcjmhkkkaa
open Go.RowKit
structure Pt where
  x : Int
  y : Int
  deriving DecidableEq, Inhabited
def RPt (w : World) (b o : Nat) (e : Pt) : Prop := w.cell? ⟨b, o, none⟩ = some (.int .i64 e.x) ∧ w.cell? ⟨b, o + 1, none⟩ = some (.int .i64 e.y)
theorem RPt.stable : Stable RPt := fun _ _ _ _ _ h hb hw => ⟨(hw.cell (by exact hb)).trans h.1, (hw.cell (by exact hb)).trans h.2⟩
theorem RPt.stableAt (lo : Nat) : StableAt lo RPt := fun w _ b o _ h hlo hb hk =>
  ⟨(World.cell?_of_block (w := w) (a := ⟨b, o, none⟩) (hk b hlo hb)).trans h.1, (World.cell?_of_block (w := w) (a := ⟨b, o + 1, none⟩) (hk b hlo hb)).trans h.2⟩
def ptCells : List Pt → List Value
  | [] => []
  | b :: l => .int .i64 b.x :: .int .i64 b.y :: ptCells l
theorem ptCells_len (l : List Pt) : (ptCells l).length = l.length * 2 := by
  induction l with
  | nil => rfl
  | cons b l ih => simp only [ptCells, List.length_cons, ih]; omega
theorem ptCells_snoc (l : List Pt) (b : Pt) : ptCells (l ++ [b]) = ptCells l ++ [.int .i64 b.x, .int .i64 b.y] := by
  induction l with
  | nil => rfl
  | cons a l ih => simp [ptCells, ih]
theorem ptCells_one (bs : List Pt) : ∀ u ∈ ptCells bs, u.oneCell' = true := by
  induction bs with
  | nil => simp [ptCells]
  | cons b l ih =>
    intro u hu
    simp only [ptCells, List.mem_cons] at hu
    rcases hu with rfl | rfl | hu
    · rfl
    · rfl
    · exact ih u hu
theorem ptCells_get : ∀ (bs : List Pt) (k : Nat) (e : Pt), bs[k]? = some e → (ptCells bs)[k * 2]? = some (.int .i64 e.x) ∧ (ptCells bs)[k * 2 + 1]? = some (.int .i64 e.y)
  | [], k, e, h => by simp at h
  | b :: bs, 0, e, h => by
    simp at h
    subst h
    simp [ptCells]
  | b :: bs, k + 1, e, h => by
    have := ptCells_get bs k e (by simpa using h)
    have h3 : (k + 1) * 2 = k * 2 + 1 + 1 := by omega
    rw [h3]
    simpa [ptCells, Nat.add_assoc] using this
theorem ptCells_set : ∀ (bs : List Pt) (k : Nat) (x y : Int), k < bs.length → ((ptCells bs).set (k * 2) (.int .i64 x)).set (k * 2 + 1) (.int .i64 y) = ptCells (bs.set k ⟨x, y⟩)
  | [], k, x, y, h => by simp at h
  | b :: bs, 0, x, y, h => by simp [ptCells]
  | b :: bs, k + 1, x, y, h => by
    have := ptCells_set bs k x y (by simpa using h)
    have h3 : (k + 1) * 2 = k * 2 + 1 + 1 := by omega
    rw [h3]
    simpa [ptCells, Nat.add_assoc] using this
theorem rdPt_of_row {W : World} {base : Nat} {T : TypeId} {v : Value} {bs : List Pt} (h : W.ownsRow base T 2 v bs.length (ptCells bs)) : ∃ A cap, v = .slice A bs.length cap ∧ RdSl 2 RPt W A bs.length bs := by
  rcases h.2 with ⟨rfl, h0⟩ | ⟨g, cap, cur, rfl, hb, hh, hn, hm, hs, ht⟩
  · exact ⟨none, 0, by rw [h0], rfl, fun hp => by omega⟩
  · refine ⟨_, cap, rfl, rfl, fun hp => ⟨g, 0, rfl, (Array.getElem?_eq_some_iff.1 hh).1, fun k hk => ?_⟩⟩
    have hg := ptCells_get bs k _ (List.getElem?_eq_getElem hk)
    rw [← ht] at hg
    have hcell : ∀ j u, (cur.toList.take (bs.length * 2))[j]? = some u → W.cell? ⟨g, j, none⟩ = some u := fun j u hj => by
      rw [List.getElem?_take] at hj
      split at hj
      · simp only [World.cell?, hh]
        simpa using hj
      · cases hj
    rw [Nat.zero_add]
    exact ⟨hcell _ _ hg.1, hcell _ _ hg.2⟩
/-- the place of a point in a list in order, seen from place a on downwards -/
def putAt (L : List Pt) (x y : Int) : Nat → Nat
  | 0 => 0
  | a + 1 => match L[a]? with
    | none => a + 1
    | some e => if lessPt e.x e.y x y = true then a + 1 else putAt L x y a
/-- a point put to its place in a list in order, once -/
def putP (L : List Pt) (x y : Int) : List Pt :=
  let a := putAt L x y L.length
  if L[a]? = some ⟨x, y⟩ then L else L.take a ++ ⟨x, y⟩ :: L.drop a
theorem putAt_le (L : List Pt) (x y : Int) : ∀ a, putAt L x y a ≤ a
  | 0 => Nat.le_refl _
  | a + 1 => by
    unfold putAt
    split
    · exact Nat.le_refl _
    · split
      · exact Nat.le_refl _
      · exact Nat.le_trans (putAt_le L x y a) (Nat.le_succ _)
theorem putAt_stop {L : List Pt} {x y : Int} {a : Nat} {e : Pt} (h : L[a]? = some e) (hl : lessPt e.x e.y x y = true) : putAt L x y (a + 1) = a + 1 := by
  simp only [putAt, h]; rw [if_pos hl]
theorem putAt_go {L : List Pt} {x y : Int} {a : Nat} {e : Pt} (h : L[a]? = some e) (hl : lessPt e.x e.y x y = false) : putAt L x y (a + 1) = putAt L x y a := by
  simp only [putAt, h]; rw [if_neg (by rw [hl]; decide)]
theorem putP_there {L : List Pt} {x y : Int} {a : Nat} (h : putAt L x y L.length = a) (he : L[a]? = some ⟨x, y⟩) : putP L x y = L := by
  unfold putP; simp only [h]; rw [if_pos he]
theorem putP_new {L : List Pt} {x y : Int} {a : Nat} (h : putAt L x y L.length = a) (he : ¬ L[a]? = some ⟨x, y⟩) : putP L x y = L.take a ++ ⟨x, y⟩ :: L.drop a := by
  unfold putP; simp only [h]; rw [if_neg he]
theorem putP_mem {L : List Pt} {x y : Int} {e : Pt} : e ∈ putP L x y ↔ e ∈ L ∨ e = ⟨x, y⟩ := by
  unfold putP
  simp only []
  split
  · rename_i h
    constructor
    · exact Or.inl
    · rintro (h1 | rfl)
      · exact h1
      · exact List.mem_of_getElem? h
  · have := List.take_append_drop (putAt L x y L.length) L
    constructor
    · intro h
      simp only [List.mem_append, List.mem_cons] at h
      rcases h with h | h | h
      · exact Or.inl (List.mem_of_mem_take h)
      · exact Or.inr h
      · exact Or.inl (List.mem_of_mem_drop h)
    · intro h
      simp only [List.mem_append, List.mem_cons]
      rcases h with h | h
      · rw [← this, List.mem_append] at h
        rcases h with h | h
        · exact Or.inl h
        · exact Or.inr (Or.inr h)
      · exact Or.inr (Or.inl h)
theorem putP_len (L : List Pt) (x y : Int) : (putP L x y).length ≤ L.length + 1 := by
  unfold putP
  simp only []
  split
  · omega
  · simp only [List.length_append, List.length_cons, List.length_take, List.length_drop]; omega
/-- how the list stands when the elements from place i on were shifted -/
theorem putP_shift {L ys : List Pt} {x y : Int} {a : Nat} (ha : a ≤ L.length) (hl : ys.length = L.length + 1) (h1 : ∀ j, j < a → ys[j]? = L[j]?) (h2 : ∀ j, a < j → j ≤ L.length → ys[j]? = L[j - 1]?) : ys.set a ⟨x, y⟩ = L.take a ++ ⟨x, y⟩ :: L.drop a := by
  apply List.ext_getElem?
  intro j
  have hta : (L.take a).length = a := by rw [List.length_take]; omega
  rcases Nat.lt_trichotomy j a with h | rfl | h
  · rw [List.getElem?_set_ne (by omega), List.getElem?_append_left (by omega), List.getElem?_take, if_pos h, h1 j h]
  · rw [List.getElem?_set_self (by omega), List.getElem?_append_right (by omega), hta, Nat.sub_self]; rfl
  · rw [List.getElem?_set_ne (by omega), List.getElem?_append_right (by omega), hta]
    obtain ⟨d, rfl⟩ : ∃ d, j = a + 1 + d := ⟨j - a - 1, by omega⟩
    have : a + 1 + d - a = d + 1 := by omega
    rw [this, List.getElem?_cons_succ, List.getElem?_drop]
    rcases Nat.lt_or_ge L.length (a + 1 + d) with hh | hh
    · rw [List.getElem?_eq_none (by omega), List.getElem?_eq_none (by omega)]
    · rw [h2 _ h hh]; congr 1; omega
theorem cell_pt2 (w : World) (a b : Value) (t : TypeId) : ∀ j u, [a, b][j]? = some u → (w.alloc (.cells #[a, b] t)).cell? ((⟨w.heap.size, 0, none⟩ : Addr).add j) = some u := by
  intro j u hj
  match j, hj with
  | 0, hj => simp at hj; subst hj; simp [Addr.add]
  | 1, hj => simp at hj; subst hj; simp [Addr.add]
end Go.Proofs.Ytkppijcjmhkkkaa
/- Plain facts: the first of the shortest ways, by steps to the goal and by a search from the start. -/
namespace Go.Proofs.Ytkppijcjmhkkkaa
/-- from v the goal y is reached in k steps -/
def inK (n : Nat) (E : Nat → Nat → Bool) (y : Nat) : Nat → Nat → Prop
  | 0, v => v = y
  | k + 1, v => ∃ u, u < n ∧ E v u = true ∧ inK n E y k u
theorem exists_least {p : Nat → Prop} (h : ∃ k, p k) : ∃ k, p k ∧ ∀ j, j < k → ¬ p j := by
  obtain ⟨k, hk⟩ := h
  induction k using Nat.strongRecOn with
  | ind k ih =>
    by_cases hj : ∃ j, j < k ∧ p j
    · obtain ⟨j, hj, hp⟩ := hj
      exact ih j hj hp
    · exact ⟨k, hk, fun j h1 h2 => hj ⟨j, h1, h2⟩⟩
open Classical in
/-- how many steps it takes -/
noncomputable def distTo (n : Nat) (E : Nat → Nat → Bool) (y v : Nat) : Option Nat := if h : ∃ k, inK n E y k v then some (Classical.choose (exists_least h)) else none
theorem distTo_some {n : Nat} {E : Nat → Nat → Bool} {y v k : Nat} : distTo n E y v = some k ↔ inK n E y k v ∧ ∀ j, j < k → ¬ inK n E y j v := by
  unfold distTo
  split
  · rename_i h
    have hs := Classical.choose_spec (exists_least h)
    constructor
    · intro e
      injection e with e
      rw [← e]; exact hs
    · intro ⟨h1, h2⟩
      congr 1
      rcases Nat.lt_trichotomy (Classical.choose (exists_least h)) k with h3 | h3 | h3
      · exact (h2 _ h3 hs.1).elim
      · exact h3
      · exact (hs.2 _ h3 h1).elim
  · rename_i h
    exact ⟨(fun e => by cases e), fun ⟨h1, _⟩ => (h ⟨k, h1⟩).elim⟩
theorem distTo_none {n : Nat} {E : Nat → Nat → Bool} {y v : Nat} : distTo n E y v = none ↔ ∀ k, ¬ inK n E y k v := by
  unfold distTo
  split
  · rename_i h
    exact ⟨(fun e => by cases e), (fun e => by obtain ⟨k, hk⟩ := h; exact (e k hk).elim)⟩
  · rename_i h
    exact ⟨fun _ k hk => h ⟨k, hk⟩, fun _ => rfl⟩
theorem distTo_of {n : Nat} {E : Nat → Nat → Bool} {y v k : Nat} (h : inK n E y k v) : ∃ d, distTo n E y v = some d ∧ d ≤ k := by
  cases hd : distTo n E y v with
  | none => exact (distTo_none.1 hd k h).elim
  | some d =>
    refine ⟨d, rfl, ?_⟩
    rcases Nat.lt_or_ge k d with h1 | h1
    · exact ((distTo_some.1 hd).2 k h1 h).elim
    · exact h1
theorem distTo_goal (n : Nat) (E : Nat → Nat → Bool) (y : Nat) : distTo n E y y = some 0 := distTo_some.2 ⟨rfl, fun j hj => by omega⟩
theorem distTo_zero {n : Nat} {E : Nat → Nat → Bool} {y v : Nat} (h : distTo n E y v = some 0) : v = y := (distTo_some.1 h).1
theorem distTo_edge {n : Nat} {E : Nat → Nat → Bool} {y u v d : Nat} (hu : u < n) (he : E v u = true) (h : distTo n E y u = some d) : ∃ d', distTo n E y v = some d' ∧ d' ≤ d + 1 :=
  distTo_of (k := d + 1) ⟨u, hu, he, (distTo_some.1 h).1⟩
theorem distTo_next {n : Nat} {E : Nat → Nat → Bool} {y v d : Nat} (h : distTo n E y v = some (d + 1)) : ∃ u, u < n ∧ E v u = true ∧ distTo n E y u = some d := by
  obtain ⟨⟨u, hu, he, hk⟩, h2⟩ := distTo_some.1 h
  obtain ⟨d', hd, hle⟩ := distTo_of hk
  refine ⟨u, hu, he, ?_⟩
  rcases Nat.lt_or_ge d' d with h3 | h3
  · exact (h2 (d' + 1) (by omega) ⟨u, hu, he, (distTo_some.1 hd).1⟩).elim
  · rw [hd, show d' = d by omega]
/-- steps that fit are the steps -/
structure IsDist (n : Nat) (E : Nat → Nat → Bool) (y : Nat) (left : Nat → Option Nat) : Prop where
  goal : left y = some 0
  edge : ∀ u v d, u < n → v < n → E v u = true → left u = some d → ∃ d', left v = some d' ∧ d' ≤ d + 1
  next : ∀ v d, v < n → left v = some d → (v = y ∧ d = 0) ∨ ∃ u d', u < n ∧ E v u = true ∧ left u = some d' ∧ d = d' + 1
theorem IsDist.eq {n : Nat} {E : Nat → Nat → Bool} {y : Nat} {left : Nat → Option Nat} (h : IsDist n E y left) (hy : y < n) : ∀ v, v < n → left v = distTo n E y v := by
  have h1 : ∀ k v, v < n → inK n E y k v → ∃ d, left v = some d ∧ d ≤ k := by
    intro k
    induction k with
    | zero =>
      intro v hv hk
      obtain rfl : v = y := hk
      exact ⟨0, h.goal, Nat.le_refl _⟩
    | succ k ih =>
      intro v hv ⟨u, hu, he, hk⟩
      obtain ⟨d, hd, hle⟩ := ih u hu hk
      obtain ⟨d', hd', hle'⟩ := h.edge u v d hu hv he hd
      exact ⟨d', hd', by omega⟩
  have h2 : ∀ d v, v < n → left v = some d → inK n E y d v := by
    intro d
    induction d with
    | zero =>
      intro v hv hl
      rcases h.next v 0 hv hl with ⟨rfl, _⟩ | ⟨u, d', _, _, _, e⟩
      · rfl
      · omega
    | succ d ih =>
      intro v hv hl
      rcases h.next v (d + 1) hv hl with ⟨_, e⟩ | ⟨u, d', hu, he, hd, e⟩
      · omega
      · obtain rfl : d = d' := by omega
        exact ⟨u, hu, he, ih u hu hd⟩
  intro v hv
  cases hl : left v with
  | none =>
    refine (distTo_none.2 fun k hk => ?_).symm
    obtain ⟨d, hd, _⟩ := h1 k v hv hk
    rw [hl] at hd; cases hd
  | some d =>
    refine (distTo_some.2 ⟨h2 d v hv hl, fun j hj hk => ?_⟩).symm
    obtain ⟨d', hd', hle⟩ := h1 j v hv hk
    rw [hl] at hd'
    injection hd' with hd'
    omega
/-- the next point of the way: the least one that is a step nearer -/
noncomputable def nextOn (n : Nat) (E : Nat → Nat → Bool) (y d v : Nat) : Nat := match (List.range n).find? (fun u => E v u && decide (distTo n E y u = some d)) with
  | some u => u
  | none => v
/-- the way from v, d steps long -/
noncomputable def wayL (n : Nat) (E : Nat → Nat → Bool) (y : Nat) : Nat → Nat → List Nat
  | 0, v => [v]
  | d + 1, v => v :: wayL n E y d (nextOn n E y d v)
noncomputable def wayTo (n : Nat) (E : Nat → Nat → Bool) (x y : Nat) : Option (List Nat) := (distTo n E y x).map fun d => wayL n E y d x
theorem nextOn_spec {n : Nat} {E : Nat → Nat → Bool} {y v d : Nat} (h : distTo n E y v = some (d + 1)) : nextOn n E y d v < n ∧ E v (nextOn n E y d v) = true ∧ distTo n E y (nextOn n E y d v) = some d ∧
    ∀ u, u < nextOn n E y d v → E v u = true → distTo n E y u ≠ some d := by
  obtain ⟨u, hu, he, hd⟩ := distTo_next h
  unfold nextOn
  cases hf : (List.range n).find? (fun u => E v u && decide (distTo n E y u = some d)) with
  | none =>
    have := List.find?_eq_none.1 hf u (by simpa using hu)
    simp [he, hd] at this
  | some u' =>
    dsimp only
    obtain ⟨hp, asL, bs, hab, hno⟩ := List.find?_eq_some_iff_append.1 hf
    simp only [Bool.and_eq_true, decide_eq_true_eq] at hp
    have hm : u' ∈ List.range n := List.mem_of_find?_eq_some hf
    refine ⟨by simpa using hm, hp.1, hp.2, fun t ht he' hd' => ?_⟩
    have htm : t ∈ asL := by
      have hn : n = asL.length + (bs.length + 1) := by
        have := congrArg List.length hab
        simpa using this
      have hu' : asL.length = u' := by
        have h1 := congrArg (fun l => l[asL.length]?) hab
        have hlt : asL.length < n := by omega
        simp [hlt] at h1
        exact h1
      have h2 := congrArg (fun l => l[t]?) hab
      have hlt : t < n := by omega
      have hta : t < asL.length := by omega
      simp only [List.getElem?_append_left hta] at h2
      rw [List.getElem?_range hlt] at h2
      exact List.mem_of_getElem? h2.symm
    have := hno t htm
    simp [he', hd'] at this
theorem wayL_len (n : Nat) (E : Nat → Nat → Bool) (y : Nat) : ∀ d v, (wayL n E y d v).length = d + 1
  | 0, v => rfl
  | d + 1, v => by simp [wayL, wayL_len n E y d]
theorem wayL_head (n : Nat) (E : Nat → Nat → Bool) (y d v : Nat) : (wayL n E y d v)[0]? = some v := by cases d <;> rfl
/-- what stands on the way -/
theorem wayL_spec {n : Nat} {E : Nat → Nat → Bool} {y : Nat} : ∀ d v, v < n → distTo n E y v = some d → ∀ j u, (wayL n E y d v)[j]? = some u → u < n ∧ j ≤ d ∧ distTo n E y u = some (d - j) ∧
    ∀ u', (wayL n E y d v)[j + 1]? = some u' → E u u' = true ∧ ∀ t, t < u' → E u t = true → distTo n E y t ≠ some (d - j - 1) := by
  intro d
  induction d with
  | zero =>
    intro v hv h j u hu
    match j with
    | 0 =>
      obtain rfl : v = u := by simpa [wayL] using hu
      exact ⟨hv, Nat.le_refl _, h, fun u' hu' => by simp [wayL] at hu'⟩
    | j + 1 => simp [wayL] at hu
  | succ d ih =>
    intro v hv h j u hu
    obtain ⟨h1, h2, h3, h4⟩ := nextOn_spec h
    match j with
    | 0 =>
      obtain rfl : v = u := by simpa [wayL] using hu
      refine ⟨hv, Nat.zero_le _, h, fun u' hu' => ?_⟩
      simp only [wayL, Nat.zero_add, List.getElem?_cons_succ] at hu'
      rw [wayL_head] at hu'
      obtain rfl := Option.some.inj hu'
      exact ⟨h2, fun t ht he => by simpa using h4 t ht he⟩
    | j + 1 =>
      simp only [wayL, List.getElem?_cons_succ] at hu ⊢
      obtain ⟨a1, a2, a3, a4⟩ := ih _ h1 h3 j u hu
      refine ⟨a1, by omega, by rw [a3]; congr 1; omega, fun u' hu' => ?_⟩
      obtain ⟨b1, b2⟩ := a4 u' hu'
      exact ⟨b1, fun t ht he => by rw [show d + 1 - (j + 1) - 1 = d - j - 1 by omega]; exact b2 t ht he⟩
theorem wayL_last {n : Nat} {E : Nat → Nat → Bool} {y : Nat} {d v : Nat} (hv : v < n) (h : distTo n E y v = some d) : (wayL n E y d v)[d]? = some y := by
  have hlt : d < (wayL n E y d v).length := by rw [wayL_len]; omega
  obtain ⟨u, hu⟩ : ∃ u, (wayL n E y d v)[d]? = some u := ⟨_, List.getElem?_eq_getElem hlt⟩
  obtain ⟨_, _, h3, _⟩ := wayL_spec d v hv h d u hu
  rw [Nat.sub_self] at h3
  rw [hu, distTo_zero h3]
/-- a search from x: L what was found, in order; q the places of those from which it was; i are done, of the next one the points below t -/
structure Bfs (n : Nat) (E : Nat → Nat → Bool) (x : Nat) (L q : List Nat) (i t : Nat) : Prop where
  len : q.length = L.length
  head : L[0]? = some x
  lt : ∀ (k v : Nat), L[k]? = some v → v < n
  nodup : ∀ (j k v : Nat), L[j]? = some v → L[k]? = some v → j = k
  from_ : ∀ (k v p u : Nat), 0 < k → L[k]? = some v → q[k]? = some p → L[p]? = some u → p < k ∧ E u v = true ∧ (p < i ∨ (p = i ∧ v < t))
  within : ∀ (k p : Nat), q[k]? = some p → p ≤ k ∧ (0 < k → p < k)
  early : ∀ (k v p p' u' : Nat), 0 < k → L[k]? = some v → q[k]? = some p → p' < p → L[p']? = some u' → E u' v = false
  order : ∀ (k k' p p' v v' : Nat), 0 < k → k < k' → q[k]? = some p → q[k']? = some p' → L[k]? = some v → L[k']? = some v' → p < p' ∨ (p = p' ∧ v < v')
  full : ∀ (p u v : Nat), L[p]? = some u → v < n → E u v = true → (p < i ∨ (p = i ∧ v < t)) → v ∈ L
theorem Bfs.start {n : Nat} {E : Nat → Nat → Bool} {x : Nat} (hx : x < n) : Bfs n E x [x] [0] 0 0 := by
  refine ⟨rfl, rfl, fun k v h => ?_, fun j k v h1 h2 => ?_, fun k v p u h0 h => ?_, fun k p h => ?_, fun k v p p' u' h0 h => ?_, fun k k' p p' v v' h0 h1 h2 h3 => ?_, fun p u v h1 h2 h3 h4 => by omega⟩
  · match k, h with
    | 0, h => simp at h; omega
    | k + 1, h => simp at h
  · match j, k, h1, h2 with
    | 0, 0, _, _ => rfl
    | j + 1, _, h1, _ => simp at h1
    | _, k + 1, _, h2 => simp at h2
  · match k, h with
    | 0, _ => omega
    | k + 1, h => simp at h
  · match k, h with
    | 0, h => simp at h; omega
    | k + 1, h => simp at h
  · match k, h with
    | 0, _ => omega
    | k + 1, h => simp at h
  · match k', h3 with
    | 0, _ => omega
    | k' + 1, h3 => simp at h3
theorem Bfs.skip {n : Nat} {E : Nat → Nat → Bool} {x : Nat} {L q : List Nat} {i t u : Nat} (h : Bfs n E x L q i t) (hi : L[i]? = some u) (hs : E u t = true → t ∈ L) : Bfs n E x L q i (t + 1) := by
  refine ⟨h.len, h.head, h.lt, h.nodup, fun k v p u h0 h1 h2 h3 => ?_, h.within, h.early, h.order, fun p u' v h1 h2 h3 h4 => ?_⟩
  · obtain ⟨a, b, c⟩ := h.from_ k v p u h0 h1 h2 h3
    exact ⟨a, b, by omega⟩
  · rcases h4 with h4 | ⟨rfl, h4⟩
    · exact h.full p u' v h1 h2 h3 (.inl h4)
    · rcases Nat.lt_succ_iff_lt_or_eq.1 h4 with h4 | rfl
      · exact h.full p u' v h1 h2 h3 (.inr ⟨rfl, h4⟩)
      · rw [hi] at h1
        obtain rfl := Option.some.inj h1
        exact hs h3
theorem Bfs.done {n : Nat} {E : Nat → Nat → Bool} {x : Nat} {L q : List Nat} {i : Nat} (h : Bfs n E x L q i n) : Bfs n E x L q (i + 1) 0 := by
  refine ⟨h.len, h.head, h.lt, h.nodup, fun k v p u h0 h1 h2 h3 => ?_, h.within, h.early, h.order, fun p u' v h1 h2 h3 h4 => ?_⟩
  · obtain ⟨a, b, c⟩ := h.from_ k v p u h0 h1 h2 h3
    exact ⟨a, b, by omega⟩
  · exact h.full p u' v h1 h2 h3 (by omega)
theorem get_snoc {α : Type} {L : List α} {a v : α} {k : Nat} (h : (L ++ [a])[k]? = some v) : (k < L.length ∧ L[k]? = some v) ∨ (k = L.length ∧ v = a) := by
  rcases Nat.lt_or_ge k L.length with hlt | hge
  · rw [List.getElem?_append_left hlt] at h
    exact .inl ⟨hlt, h⟩
  · have hlt := (List.getElem?_eq_some_iff.1 h).1
    simp at hlt
    obtain rfl : k = L.length := by omega
    simp at h
    exact .inr ⟨rfl, h.symm⟩
theorem Bfs.found {n : Nat} {E : Nat → Nat → Bool} {x : Nat} {L q : List Nat} {i t u : Nat} (h : Bfs n E x L q i t) (hi : L[i]? = some u) (ht : t < n) (he : E u t = true) (hn : t ∉ L) : Bfs n E x (L ++ [t]) (q ++ [i]) i (t + 1) := by
  have hil := (List.getElem?_eq_some_iff.1 hi).1
  have hL0 : 0 < L.length := by omega
  have hold : ∀ {k v}, k < L.length → (L ++ [t])[k]? = some v → L[k]? = some v := fun hk h => by rwa [List.getElem?_append_left hk] at h
  refine ⟨by simp [h.len], by rw [List.getElem?_append_left hL0]; exact h.head, fun k v hv => ?_, fun j k v hj hk => ?_, fun k v p u' h0 hv hp hu => ?_, fun k p hp => ?_, fun k v p p' u' h0 hv hp hlt hu => ?_, fun k k' p p' v v' h0 hkk hp hp' hv hv' => ?_, fun p u' v hu hv hE hc => ?_⟩
  · rcases get_snoc hv with ⟨_, hv⟩ | ⟨_, rfl⟩
    · exact h.lt k v hv
    · exact ht
  · rcases get_snoc hj with ⟨_, hj1⟩ | ⟨rfl, rfl⟩
    · rcases get_snoc hk with ⟨_, hk1⟩ | ⟨rfl, rfl⟩
      · exact h.nodup j k v hj1 hk1
      · exact (hn (List.mem_of_getElem? hj1)).elim
    · rcases get_snoc hk with ⟨_, hk⟩ | ⟨rfl, _⟩
      · exact (hn (List.mem_of_getElem? hk)).elim
      · rfl
  · rcases get_snoc hv with ⟨hk, hv⟩ | ⟨rfl, rfl⟩
    · rcases get_snoc hp with ⟨_, hp⟩ | ⟨hk', _⟩
      · have hpk := (h.within k p hp).2 h0
        obtain ⟨a, b, c⟩ := h.from_ k v p u' h0 hv hp (hold (by omega) hu)
        exact ⟨a, b, by omega⟩
      · rw [h.len] at hk'; omega
    · rcases get_snoc hp with ⟨hk', _⟩ | ⟨_, rfl⟩
      · rw [h.len] at hk'; omega
      · have := hold hil hu
        rw [hi] at this
        obtain rfl := Option.some.inj this
        exact ⟨hil, he, .inr ⟨rfl, Nat.lt_succ_self _⟩⟩
  · rcases get_snoc hp with ⟨_, hp⟩ | ⟨rfl, rfl⟩
    · exact h.within k p hp
    · rw [h.len]; exact ⟨Nat.le_of_lt hil, fun _ => hil⟩
  · rcases get_snoc hv with ⟨hk, hv⟩ | ⟨rfl, rfl⟩
    · rcases get_snoc hp with ⟨_, hp⟩ | ⟨hk', _⟩
      · have hpk := (h.within k p hp).2 h0
        exact h.early k v p p' u' h0 hv hp hlt (hold (by omega) hu)
      · rw [h.len] at hk'; omega
    · rcases get_snoc hp with ⟨hk', _⟩ | ⟨_, rfl⟩
      · rw [h.len] at hk'; omega
      · cases hE : E u' v
        · rfl
        · exact (hn (h.full p' u' v (hold (by omega) hu) ht hE (.inl hlt))).elim
  · rcases get_snoc hp' with ⟨hk', hp'⟩ | ⟨rfl, rfl⟩
    · rw [h.len] at hk'
      rcases get_snoc hp with ⟨_, hp⟩ | ⟨hk, _⟩
      · exact h.order k k' p p' v v' h0 hkk hp hp' (hold (by omega) hv) (hold hk' hv')
      · rw [h.len] at hk; omega
    · rw [h.len] at hkk hv'
      simp at hv'
      subst hv'
      rcases get_snoc hp with ⟨_, hp⟩ | ⟨hk, _⟩
      · have hpk := (h.within k p hp).2 h0
        have hpl : p < L.length := by omega
        obtain ⟨_, _, c⟩ := h.from_ k v p _ h0 (hold hkk hv) hp (List.getElem?_eq_getElem hpl)
        exact c
      · rw [h.len] at hk; omega
  · rcases get_snoc hu with ⟨_, hu⟩ | ⟨rfl, rfl⟩
    · rcases hc with hc | ⟨rfl, hc⟩
      · exact List.mem_append_left _ (h.full p u' v hu hv hE (.inl hc))
      · rcases Nat.lt_succ_iff_lt_or_eq.1 hc with hc | rfl
        · exact List.mem_append_left _ (h.full p u' v hu hv hE (.inr ⟨rfl, hc⟩))
        · exact List.mem_append_right _ (List.mem_singleton.2 rfl)
    · omega
/-- at the end: what is reached is found -/
theorem Bfs.closed {n : Nat} {E : Nat → Nat → Bool} {x : Nat} {L q : List Nat} (h : Bfs n E x L q L.length 0) {u v : Nat} (hu : u ∈ L) (hv : v < n) (he : E u v = true) : v ∈ L := by
  obtain ⟨p, hp⟩ := List.mem_iff_getElem?.1 hu
  exact h.full p u v hp hv he (.inl (List.getElem?_eq_some_iff.1 hp).1)
theorem Bfs.reach {n : Nat} {E : Nat → Nat → Bool} {x : Nat} {L q : List Nat} (h : Bfs n E x L q L.length 0) {y : Nat} : ∀ d v, v ∈ L → v < n → distTo n E y v = some d → y ∈ L := by
  intro d
  induction d with
  | zero =>
    intro v hv _ hd
    rw [← distTo_zero hd]; exact hv
  | succ d ih =>
    intro v hv hvn hd
    obtain ⟨u, hu, he, hd'⟩ := distTo_next hd
    exact ih u (h.closed hv hu he) hu hd'
/-- every point that was found is reached -/
theorem Bfs.inK' {n : Nat} {E : Nat → Nat → Bool} {x : Nat} {L q : List Nat} (h : Bfs n E x L q L.length 0) {y : Nat} : ∀ (k v j : Nat), L[k]? = some v → inK n E y j v → ∃ j', inK n E y j' x := by
  intro k
  induction k using Nat.strongRecOn with
  | ind k ih =>
    intro v j hv hj
    by_cases h0 : k = 0
    · subst h0
      rw [h.head] at hv
      obtain rfl := Option.some.inj hv
      exact ⟨j, hj⟩
    · have hkl := (List.getElem?_eq_some_iff.1 hv).1
      obtain ⟨p, hp⟩ : ∃ p, q[k]? = some p := ⟨_, List.getElem?_eq_getElem (by rw [h.len]; exact hkl)⟩
      have hpk := (h.within k p hp).2 (by omega)
      obtain ⟨u, hu⟩ : ∃ u, L[p]? = some u := ⟨_, List.getElem?_eq_getElem (by omega)⟩
      obtain ⟨_, he, _⟩ := h.from_ k v p u (by omega) hv hp hu
      exact ih p hpk u (j + 1) hu ⟨v, h.lt k v hv, he, hj⟩
theorem Bfs.way {n : Nat} {E : Nat → Nat → Bool} {x y : Nat} {L q : List Nat} (h : Bfs n E x L q L.length 0) (hx : x < n) : wayTo n E x y = none ↔ y ∉ L := by
  unfold wayTo
  cases hd : distTo n E y x with
  | none =>
    refine ⟨fun _ hy => ?_, fun _ => rfl⟩
    obtain ⟨k, hk⟩ := List.mem_iff_getElem?.1 hy
    obtain ⟨j, hj⟩ := h.inK' k y 0 hk rfl
    exact distTo_none.1 hd j hj
  | some d =>
    refine ⟨fun e => by simp at e, fun hy => (hy ?_).elim⟩
    exact h.reach d x (List.mem_of_getElem? h.head) hx hd
/-- the places of the way's points among those that were found: each was found from the one before it -/
theorem Bfs.chain {n : Nat} {E : Nat → Nat → Bool} {x y D : Nat} {L q : List Nat} (h : Bfs n E x L q L.length 0) (hx : x < n) (hD : distTo n E y x = some D) :
    ∀ (m r v : Nat), m ≤ D → (wayL n E y D x)[m]? = some v → L[r]? = some v →
      (∀ (p l u : Nat), p < r → L[p]? = some u → distTo n E y u = some l → D - m < l) ∧ (∀ (m' r' v' : Nat), m = m' + 1 → (wayL n E y D x)[m']? = some v' → L[r']? = some v' → q[r]? = some r') := by
  have hdist : ∀ {p r : Nat} {u v l : Nat}, L[p]? = some u → L[r]? = some v → E u v = true → distTo n E y v = some l → ∃ l', distTo n E y u = some l' ∧ l' ≤ l + 1 := fun hp hr he hl => distTo_edge (h.lt _ _ hr) he hl
  intro m
  induction m with
  | zero =>
    intro r v hm hv hr
    rw [wayL_head] at hv
    obtain rfl := Option.some.inj hv
    obtain rfl := h.nodup 0 r x h.head hr
    exact ⟨fun p l u hp => by omega, fun m' r' v' e => by omega⟩
  | succ m ih =>
    intro r v hm hv hr
    have hlen := wayL_len n E y D x
    obtain ⟨u, hu⟩ : ∃ u, (wayL n E y D x)[m]? = some u := ⟨_, List.getElem?_eq_getElem (by omega)⟩
    obtain ⟨hun, _, hud, hnx⟩ := wayL_spec D x hx hD m u hu
    obtain ⟨huv, hmin⟩ := hnx v hv
    obtain ⟨hvn, _, hvd, _⟩ := wayL_spec D x hx hD (m + 1) v hv
    have huL : u ∈ L := by
      have : ∀ (j w : Nat), j ≤ m → (wayL n E y D x)[j]? = some w → w ∈ L := by
        intro j
        induction j with
        | zero =>
          intro w _ hw
          rw [wayL_head] at hw
          obtain rfl := Option.some.inj hw
          exact List.mem_of_getElem? h.head
        | succ j ihj =>
          intro w hj hw
          obtain ⟨w', hw'⟩ : ∃ w', (wayL n E y D x)[j]? = some w' := ⟨_, List.getElem?_eq_getElem (by omega)⟩
          obtain ⟨_, _, _, hn2⟩ := wayL_spec D x hx hD j w' hw'
          obtain ⟨hwn, _, _, _⟩ := wayL_spec D x hx hD (j + 1) w hw
          exact h.closed (ihj w' (by omega) hw') hwn (hn2 w hw).1
      exact this m u (Nat.le_refl _) hu
    obtain ⟨ru, hru⟩ := List.mem_iff_getElem?.1 huL
    obtain ⟨hS, _⟩ := ih ru u (by omega) hu hru
    have hrl := (List.getElem?_eq_some_iff.1 hr).1
    have hr0 : 0 < r := by
      rcases Nat.eq_zero_or_pos r with h0 | h0
      · subst h0
        rw [h.head] at hr
        obtain rfl := Option.some.inj hr
        rw [hD] at hvd
        injection hvd with hvd
        omega
      · exact h0
    obtain ⟨p, hp⟩ : ∃ p, q[r]? = some p := ⟨_, List.getElem?_eq_getElem (by rw [h.len]; exact hrl)⟩
    have hpr := (h.within r p hp).2 hr0
    obtain ⟨w, hw⟩ : ∃ w, L[p]? = some w := ⟨_, List.getElem?_eq_getElem (by omega)⟩
    obtain ⟨_, hwv, _⟩ := h.from_ r v p w hr0 hr hp hw
    have hpru : p = ru := by
      rcases Nat.lt_trichotomy p ru with h1 | h1 | h1
      · obtain ⟨l', hl', hle⟩ := hdist hw hr hwv hvd
        have := hS p l' w h1 hw hl'
        omega
      · exact h1
      · have := h.early r v p ru u hr0 hr hp h1 hru
        rw [huv] at this; cases this
    subst hpru
    refine ⟨fun p' l w' hp' hw' hl => ?_, fun m' r' v' e hv' hr' => ?_⟩
    · rcases Nat.lt_or_ge (D - (m + 1)) l with h1 | h1
      · exact h1
      · exfalso
        rcases Nat.eq_zero_or_pos p' with h0 | h0
        · subst h0
          rw [h.head] at hw'
          obtain rfl := Option.some.inj hw'
          rw [hD] at hl
          injection hl with hl
          omega
        · have hp'l : p' < L.length := by omega
          obtain ⟨s, hs⟩ : ∃ s, q[p']? = some s := ⟨_, List.getElem?_eq_getElem (by rw [h.len]; exact hp'l)⟩
          have hsp := (h.within p' s hs).2 h0
          obtain ⟨z, hz⟩ : ∃ z, L[s]? = some z := ⟨_, List.getElem?_eq_getElem (by omega)⟩
          obtain ⟨_, hzw, _⟩ := h.from_ p' w' s z h0 hw' hs hz
          obtain ⟨lz, hlz, hle⟩ := hdist hz hw' hzw hl
          rcases h.order p' r s p w' v h0 hp' hs hp hw' hr with h2 | ⟨rfl, h2⟩
          · have := hS s lz z h2 hz hlz
            omega
          · rw [hru] at hz
            obtain rfl := Option.some.inj hz
            rw [hud] at hlz
            injection hlz with hlz
            exact hmin w' h2 hzw (by rw [hl]; congr 1; omega)
    · obtain rfl : m' = m := by omega
      rw [hu] at hv'
      obtain rfl := Option.some.inj hv'
      rw [h.nodup r' p u hr' hru]
      exact hp
end Go.Proofs.Ytkppijcjmhkkkaa
/- Plain facts: a list of different numbers below n is no longer than n; the way by a search. -/

namespace Go.Proofs.Ytkppijcjmhkkkaa
theorem nodup_len : ∀ (n : Nat) (L : List Nat), L.Nodup → (∀ v ∈ L, v < n) → L.length ≤ n := by
  intro n
  induction n with
  | zero =>
    intro L _ h
    cases L with
    | nil => simp
    | cons a L => have := h a (List.mem_cons_self ..); omega
  | succ n ih =>
    intro L hd h
    by_cases hm : n ∈ L
    · have h1 := ih (L.erase n) (hd.erase n) (fun v hv => by
        have h2 := (hd.mem_erase_iff).1 hv
        have := h v h2.2
        omega)
      rw [List.length_erase_of_mem hm] at h1
      omega
    · have := ih L hd (fun v hv => by
        have := h v hv
        have : v ≠ n := fun e => hm (e ▸ hv)
        omega)
      omega
theorem nodup_of_get {L : List Nat} (h : ∀ (j k v : Nat), L[j]? = some v → L[k]? = some v → j = k) : L.Nodup := by
  rw [List.nodup_iff_pairwise_ne, List.pairwise_iff_getElem]
  intro i j hi hj hij e
  have := h i j L[i] (List.getElem?_eq_getElem hi) (by rw [List.getElem?_eq_getElem hj, e])
  omega
theorem Bfs.size {n : Nat} {E : Nat → Nat → Bool} {x : Nat} {L q : List Nat} {i t : Nat} (h : Bfs n E x L q i t) : L.length ≤ n :=
  nodup_len n L (nodup_of_get h.nodup) (fun v hv => by
    obtain ⟨k, hk⟩ := List.mem_iff_getElem?.1 hv
    exact h.lt k v hk)
theorem Bfs.room {n : Nat} {E : Nat → Nat → Bool} {x : Nat} {L q : List Nat} {i t v : Nat} (h : Bfs n E x L q i t) (hv : v < n) (hn : v ∉ L) : L.length < n := by
  have := nodup_len n (L ++ [v]) (by
    rw [List.nodup_append]
    exact ⟨nodup_of_get h.nodup, by simp, fun a ha b hb e => by
      simp at hb
      subst hb
      exact hn (e ▸ ha)⟩) (fun u hu => by
    rcases List.mem_append.1 hu with hu | hu
    · obtain ⟨k, hk⟩ := List.mem_iff_getElem?.1 hu
      exact h.lt k u hk
    · simp at hu; omega)
  simp at this
  omega
/-- the row of parents -/
structure Par (n : Nat) (L q : List Nat) (f : Nat → Int) : Prop where
  at_ : ∀ (k v p u : Nat), L[k]? = some v → q[k]? = some p → L[p]? = some u → f v = (u : Int)
  no : ∀ v, v < n → v ∉ L → f v = -1
theorem Par.start {n x : Nat} : Par n [x] [0] fun j => if j = x then (x : Int) else -1 := by
  refine ⟨fun k v p u hk hp hu => ?_, fun v _ hv => ?_⟩
  · match k, hk, hp with
    | 0, hk, hp =>
      simp at hk hp
      subst hk hp
      simp at hu
      subst hu
      simp
    | k + 1, hk, _ => simp at hk
  · simp at hv
    rw [if_neg hv]
theorem Par.found {n : Nat} {E : Nat → Nat → Bool} {x : Nat} {L q : List Nat} {i t u s : Nat} {f : Nat → Int} (h : Par n L q f) (hb : Bfs n E x L q i s) (hi : L[i]? = some u) (hn : t ∉ L) : Par n (L ++ [t]) (q ++ [i]) fun j => if j = t then (u : Int) else f j := by
  have hil := (List.getElem?_eq_some_iff.1 hi).1
  refine ⟨fun k v p w hk hp hw => ?_, fun v hv hv' => ?_⟩
  · rcases get_snoc hk with ⟨hkl, hk1⟩ | ⟨rfl, rfl⟩
    · rcases get_snoc hp with ⟨_, hp1⟩ | ⟨hk', _⟩
      · have hpk := (hb.within k p hp1).1
        have hpl : p < L.length := by omega
        rw [List.getElem?_append_left hpl] at hw
        have hne : v ≠ t := fun e => hn (e ▸ List.mem_of_getElem? hk1)
        rw [if_neg hne]
        exact h.at_ k v p w hk1 hp1 hw
      · rw [hb.len] at hk'; omega
    · rcases get_snoc hp with ⟨hk', _⟩ | ⟨_, rfl⟩
      · rw [hb.len] at hk'; omega
      · rw [List.getElem?_append_left hil, hi] at hw
        obtain rfl := Option.some.inj hw
        rw [if_pos rfl]
  · simp only [List.mem_append, List.mem_singleton, not_or] at hv'
    rw [if_neg hv'.2]
    exact h.no v hv hv'.1
/-- behind the search: who stands before whom on the way -/
theorem Par.back {n : Nat} {E : Nat → Nat → Bool} {x y D m u v : Nat} {L q : List Nat} {f : Nat → Int} (h : Par n L q f) (hb : Bfs n E x L q L.length 0) (hx : x < n) (hD : distTo n E y x = some D) (hm : m < D)
    (hu : (wayL n E y D x)[m]? = some u) (hv : (wayL n E y D x)[m + 1]? = some v) : f v = (u : Int) := by
  have hin : ∀ (j w : Nat), j ≤ D → (wayL n E y D x)[j]? = some w → w ∈ L := by
    intro j
    induction j with
    | zero =>
      intro w _ hw
      rw [wayL_head] at hw
      obtain rfl := Option.some.inj hw
      exact List.mem_of_getElem? hb.head
    | succ j ih =>
      intro w hj hw
      obtain ⟨w', hw'⟩ : ∃ w', (wayL n E y D x)[j]? = some w' := ⟨_, List.getElem?_eq_getElem (by rw [wayL_len]; omega)⟩
      obtain ⟨_, _, _, hn2⟩ := wayL_spec D x hx hD j w' hw'
      obtain ⟨hwn, _, _, _⟩ := wayL_spec D x hx hD (j + 1) w hw
      exact hb.closed (ih w' (by omega) hw') hwn (hn2 w hw).1
  obtain ⟨ru, hru⟩ := List.mem_iff_getElem?.1 (hin m u (by omega) hu)
  obtain ⟨rv, hrv⟩ := List.mem_iff_getElem?.1 (hin (m + 1) v (by omega) hv)
  have hq := (hb.chain hx hD (m + 1) rv v (by omega) hv hrv).2 m ru u rfl hu hru
  exact h.at_ rv v ru u hrv hq hru
/-- on the way no point but the first is the start -/
theorem wayL_start {n : Nat} {E : Nat → Nat → Bool} {x y D m : Nat} (hx : x < n) (hD : distTo n E y x = some D) (h : (wayL n E y D x)[m]? = some x) : m = 0 := by
  obtain ⟨_, h1, h2, _⟩ := wayL_spec D x hx hD m x h
  rw [hD] at h2
  injection h2 with h2
  omega
theorem wayL_short {n : Nat} {E : Nat → Nat → Bool} {x y D : Nat} (hx : x < n) (hD : distTo n E y x = some D) : D < n := by
  have := nodup_len n (wayL n E y D x) (nodup_of_get fun j k v hj hk => by
    obtain ⟨_, h1, h2, _⟩ := wayL_spec D x hx hD j v hj
    obtain ⟨_, h3, h4, _⟩ := wayL_spec D x hx hD k v hk
    rw [h2] at h4
    injection h4 with h4
    omega) (fun v hv => by
    obtain ⟨k, hk⟩ := List.mem_iff_getElem?.1 hv
    exact (wayL_spec D x hx hD k v hk).1)
  rw [wayL_len] at this
  omega
theorem drop_last {W : List Nat} {D y : Nat} (hl : W.length = D + 1) (h : W[D]? = some y) : W.drop D = [y] := by
  obtain ⟨hlt, he⟩ := List.getElem?_eq_some_iff.1 h
  rw [List.drop_eq_getElem_cons hlt, he, List.drop_eq_nil_of_le (by omega)]
theorem drop_more {W : List Nat} {m z : Nat} (h : W[m]? = some z) : W.drop m = z :: W.drop (m + 1) := by
  obtain ⟨hlt, he⟩ := List.getElem?_eq_some_iff.1 h
  rw [List.drop_eq_getElem_cons hlt, he]
end Go.Proofs.Ytkppijcjmhkkkaa
