import Derived.Test.YtmpmokefgdjnkaaGreatBase2
import Derived.Test.YtmpmokefgdjnkaaGreatP1
import Derived.Test.YtmpmokefgdjnkaaGreatKO
set_option linter.unusedSimpArgs false
set_option linter.unusedVariables false
/- Words on rows of points; a point put to its place in a list. -/


namespace Go.Proofs.YtmpmokefgdjnkaaGreat
open Go.RowKit
structure Pt where
  x : Int
  y : Int
  deriving DecidableEq, Inhabited
def RPt (w : World) (b o : Nat) (e : Pt) : Prop := w.cell? ⟨b, o, none⟩ = some (.int .i64 e.x) ∧ w.cell? ⟨b, o + 1, none⟩ = some (.int .i64 e.y)
theorem RPt.stable : Stable RPt := fun _ _ _ _ _ h hb hw => ⟨(hw.cell (by exact hb)).trans h.1, (hw.cell (by exact hb)).trans h.2⟩
theorem RPt.stableAt (lo : Nat) : StableAt lo RPt := fun w _ b o _ h hlo hb hk =>
  ⟨(World.cell?_of_block (w := w) (a := ⟨b, o, none⟩) (hk b hlo hb)).trans h.1, (World.cell?_of_block (w := w) (a := ⟨b, o + 1, none⟩) (hk b hlo hb)).trans h.2⟩
def ptCells : List Pt → List Value
  | [] => []
  | b :: l => .int .i64 b.x :: .int .i64 b.y :: ptCells l
theorem ptCells_len (l : List Pt) : (ptCells l).length = l.length * 2 := by
  induction l with
  | nil => rfl
  | cons b l ih => simp only [ptCells, List.length_cons, ih]; omega
theorem ptCells_snoc (l : List Pt) (b : Pt) : ptCells (l ++ [b]) = ptCells l ++ [.int .i64 b.x, .int .i64 b.y] := by
  induction l with
  | nil => rfl
  | cons a l ih => simp [ptCells, ih]
theorem ptCells_one (bs : List Pt) : ∀ u ∈ ptCells bs, u.oneCell' = true := by
  induction bs with
  | nil => simp [ptCells]
  | cons b l ih =>
    intro u hu
    simp only [ptCells, List.mem_cons] at hu
    rcases hu with rfl | rfl | hu
    · rfl
    · rfl
    · exact ih u hu
theorem ptCells_get : ∀ (bs : List Pt) (k : Nat) (e : Pt), bs[k]? = some e → (ptCells bs)[k * 2]? = some (.int .i64 e.x) ∧ (ptCells bs)[k * 2 + 1]? = some (.int .i64 e.y)
  | [], k, e, h => by simp at h
  | b :: bs, 0, e, h => by
    simp at h
    subst h
    simp [ptCells]
  | b :: bs, k + 1, e, h => by
    have := ptCells_get bs k e (by simpa using h)
    have h3 : (k + 1) * 2 = k * 2 + 1 + 1 := by omega
    rw [h3]
    simpa [ptCells, Nat.add_assoc] using this
theorem ptCells_set : ∀ (bs : List Pt) (k : Nat) (x y : Int), k < bs.length → ((ptCells bs).set (k * 2) (.int .i64 x)).set (k * 2 + 1) (.int .i64 y) = ptCells (bs.set k ⟨x, y⟩)
  | [], k, x, y, h => by simp at h
  | b :: bs, 0, x, y, h => by simp [ptCells]
  | b :: bs, k + 1, x, y, h => by
    have := ptCells_set bs k x y (by simpa using h)
    have h3 : (k + 1) * 2 = k * 2 + 1 + 1 := by omega
    rw [h3]
    simpa [ptCells, Nat.add_assoc] using this
theorem rdPt_of_row {W : World} {base : Nat} {T : TypeId} {v : Value} {bs : List Pt} (h : W.ownsRow base T 2 v bs.length (ptCells bs)) : ∃ A cap, v = .slice A bs.length cap ∧ RdSl 2 RPt W A bs.length bs := by
  rcases h.2 with ⟨rfl, h0⟩ | ⟨g, cap, cur, rfl, hb, hh, hn, hm, hs, ht⟩
  · exact ⟨none, 0, by rw [h0], rfl, fun hp => by omega⟩
  · refine ⟨_, cap, rfl, rfl, fun hp => ⟨g, 0, rfl, (Array.getElem?_eq_some_iff.1 hh).1, fun k hk => ?_⟩⟩
    have hg := ptCells_get bs k _ (List.getElem?_eq_getElem hk)
    rw [← ht] at hg
    have hcell : ∀ j u, (cur.toList.take (bs.length * 2))[j]? = some u → W.cell? ⟨g, j, none⟩ = some u := fun j u hj => by
      rw [List.getElem?_take] at hj
      split at hj
      · simp only [World.cell?, hh]
        simpa using hj
      · cases hj
    rw [Nat.zero_add]
    exact ⟨hcell _ _ hg.1, hcell _ _ hg.2⟩
/-- the place of a point in a list in order, seen from place a on downwards -/
def putAt (L : List Pt) (x y : Int) : Nat → Nat
  | 0 => 0
  | a + 1 => match L[a]? with
    | none => a + 1
    | some e => if lessPt e.x e.y x y = true then a + 1 else putAt L x y a
/-- a point put to its place in a list in order, once -/
def putP (L : List Pt) (x y : Int) : List Pt :=
  let a := putAt L x y L.length
  if L[a]? = some ⟨x, y⟩ then L else L.take a ++ ⟨x, y⟩ :: L.drop a
theorem putAt_le (L : List Pt) (x y : Int) : ∀ a, putAt L x y a ≤ a
  | 0 => Nat.le_refl _
  | a + 1 => by
    unfold putAt
    split
    · exact Nat.le_refl _
    · split
      · exact Nat.le_refl _
      · exact Nat.le_trans (putAt_le L x y a) (Nat.le_succ _)
theorem putAt_stop {L : List Pt} {x y : Int} {a : Nat} {e : Pt} (h : L[a]? = some e) (hl : lessPt e.x e.y x y = true) : putAt L x y (a + 1) = a + 1 := by
  simp only [putAt, h]; rw [if_pos hl]
theorem putAt_go {L : List Pt} {x y : Int} {a : Nat} {e : Pt} (h : L[a]? = some e) (hl : lessPt e.x e.y x y = false) : putAt L x y (a + 1) = putAt L x y a := by
  simp only [putAt, h]; rw [if_neg (by rw [hl]; decide)]
theorem putP_there {L : List Pt} {x y : Int} {a : Nat} (h : putAt L x y L.length = a) (he : L[a]? = some ⟨x, y⟩) : putP L x y = L := by
  unfold putP; simp only [h]; rw [if_pos he]
theorem putP_new {L : List Pt} {x y : Int} {a : Nat} (h : putAt L x y L.length = a) (he : ¬ L[a]? = some ⟨x, y⟩) : putP L x y = L.take a ++ ⟨x, y⟩ :: L.drop a := by
  unfold putP; simp only [h]; rw [if_neg he]
theorem putP_mem {L : List Pt} {x y : Int} {e : Pt} : e ∈ putP L x y ↔ e ∈ L ∨ e = ⟨x, y⟩ := by
  unfold putP
  simp only []
  split
  · rename_i h
    constructor
    · exact Or.inl
    · rintro (h1 | rfl)
      · exact h1
      · exact List.mem_of_getElem? h
  · have := List.take_append_drop (putAt L x y L.length) L
    constructor
    · intro h
      simp only [List.mem_append, List.mem_cons] at h
      rcases h with h | h | h
      · exact Or.inl (List.mem_of_mem_take h)
      · exact Or.inr h
      · exact Or.inl (List.mem_of_mem_drop h)
    · intro h
      simp only [List.mem_append, List.mem_cons]
      rcases h with h | h
      · rw [← this, List.mem_append] at h
        rcases h with h | h
        · exact Or.inl h
        · exact Or.inr (Or.inr h)
      · exact Or.inr (Or.inl h)
theorem putP_len (L : List Pt) (x y : Int) : (putP L x y).length ≤ L.length + 1 := by
  unfold putP
  simp only []
  split
  · omega
  · simp only [List.length_append, List.length_cons, List.length_take, List.length_drop]; omega
/-- how the list stands when the elements from place i on were shifted -/
theorem putP_shift {L ys : List Pt} {x y : Int} {a : Nat} (ha : a ≤ L.length) (hl : ys.length = L.length + 1) (h1 : ∀ j, j < a → ys[j]? = L[j]?) (h2 : ∀ j, a < j → j ≤ L.length → ys[j]? = L[j - 1]?) : ys.set a ⟨x, y⟩ = L.take a ++ ⟨x, y⟩ :: L.drop a := by
  apply List.ext_getElem?
  intro j
  have hta : (L.take a).length = a := by rw [List.length_take]; omega
  rcases Nat.lt_trichotomy j a with h | rfl | h
  · rw [List.getElem?_set_ne (by omega), List.getElem?_append_left (by omega), List.getElem?_take, if_pos h, h1 j h]
  · rw [List.getElem?_set_self (by omega), List.getElem?_append_right (by omega), hta, Nat.sub_self]; rfl
  · rw [List.getElem?_set_ne (by omega), List.getElem?_append_right (by omega), hta]
    obtain ⟨d, rfl⟩ : ∃ d, j = a + 1 + d := ⟨j - a - 1, by omega⟩
    have : a + 1 + d - a = d + 1 := by omega
    rw [this, List.getElem?_cons_succ, List.getElem?_drop]
    rcases Nat.lt_or_ge L.length (a + 1 + d) with hh | hh
    · rw [List.getElem?_eq_none (by omega), List.getElem?_eq_none (by omega)]
    · rw [h2 _ h hh]; congr 1; omega
theorem cell_pt2 (w : World) (a b : Value) (t : TypeId) : ∀ j u, [a, b][j]? = some u → (w.alloc (.cells #[a, b] t)).cell? ((⟨w.heap.size, 0, none⟩ : Addr).add j) = some u := by
  intro j u hj
  match j, hj with
  | 0, hj => simp at hj; subst hj; simp [Addr.add]
  | 1, hj => simp at hj; subst hj; simp [Addr.add]
end Go.Proofs.YtmpmokefgdjnkaaGreat
/- Plain: the least rectangle of points. -/

namespace Go.Proofs.YtmpmokefgdjnkaaGreat
open Go.RowKit
def mn (x y : Int) : Int := if y < x then y else x
def mx (x y : Int) : Int := if x < y then y else x
theorem mn_self (x : Int) : mn x x = x := by unfold mn; split <;> rfl
theorem mx_self (x : Int) : mx x x = x := by unfold mx; split <;> rfl
structure Bx where
  lx : Int
  ly : Int
  hx : Int
  hy : Int
def ptA (ps : List Pt) (k : Nat) : Pt := (ps[k]?).getD ⟨0, 0⟩
/-- the least rectangle of the first point and of the first k points -/
def bxN (ps : List Pt) : Nat → Bx
  | 0 => ⟨(ptA ps 0).x, (ptA ps 0).y, (ptA ps 0).x, (ptA ps 0).y⟩
  | k + 1 => ⟨mn (bxN ps k).lx (ptA ps k).x, mn (bxN ps k).ly (ptA ps k).y, mx (bxN ps k).hx (ptA ps k).x, mx (bxN ps k).hy (ptA ps k).y⟩
theorem bxN_one (ps : List Pt) : bxN ps 1 = bxN ps 0 := by
  simp only [bxN, mn_self, mx_self]
theorem mn_rng {x y : Int} (hx : -60 ≤ x ∧ x ≤ 60) (hy : -60 ≤ y ∧ y ≤ 60) : -60 ≤ mn x y ∧ mn x y ≤ 60 := by unfold mn; split <;> assumption
theorem mx_rng {x y : Int} (hx : -60 ≤ x ∧ x ≤ 60) (hy : -60 ≤ y ∧ y ≤ 60) : -60 ≤ mx x y ∧ mx x y ≤ 60 := by unfold mx; split <;> assumption
theorem bxN_rng {ps : List Pt} (h : ∀ k, (-60 ≤ (ptA ps k).x ∧ (ptA ps k).x ≤ 60) ∧ (-60 ≤ (ptA ps k).y ∧ (ptA ps k).y ≤ 60)) : ∀ k, (-60 ≤ (bxN ps k).lx ∧ (bxN ps k).lx ≤ 60) ∧ (-60 ≤ (bxN ps k).ly ∧ (bxN ps k).ly ≤ 60) ∧ (-60 ≤ (bxN ps k).hx ∧ (bxN ps k).hx ≤ 60) ∧ (-60 ≤ (bxN ps k).hy ∧ (bxN ps k).hy ≤ 60)
  | 0 => ⟨(h 0).1, (h 0).2, (h 0).1, (h 0).2⟩
  | k + 1 => by
    obtain ⟨a, b, c, d⟩ := bxN_rng h k
    exact ⟨mn_rng a (h k).1, mn_rng b (h k).2, mx_rng c (h k).1, mx_rng d (h k).2⟩
def areaI (b : Bx) : Int := (b.hx - b.lx + 1) * (b.hy - b.ly + 1)
theorem areaI_rng {b : Bx} (h1 : -60 ≤ b.lx ∧ b.lx ≤ 60) (h2 : -60 ≤ b.ly ∧ b.ly ≤ 60) (h3 : -60 ≤ b.hx ∧ b.hx ≤ 60) (h4 : -60 ≤ b.hy ∧ b.hy ≤ 60) : -20000 ≤ areaI b ∧ areaI b ≤ 20000 := by
  unfold areaI
  obtain ⟨u, hu⟩ : ∃ u, b.hx - b.lx + 1 = u := ⟨_, rfl⟩
  obtain ⟨v, hv⟩ : ∃ v, b.hy - b.ly + 1 = v := ⟨_, rfl⟩
  rw [hu, hv]
  have u1 : -119 ≤ u := by omega
  have u2 : u ≤ 121 := by omega
  have v1 : -119 ≤ v := by omega
  have v2 : v ≤ 121 := by omega
  have a1 : 0 ≤ (u + 121) * (v + 121) := Int.mul_nonneg (by omega) (by omega)
  have a2 : 0 ≤ (121 - u) * (121 - v) := Int.mul_nonneg (by omega) (by omega)
  have a3 : 0 ≤ (u + 121) * (121 - v) := Int.mul_nonneg (by omega) (by omega)
  have a4 : 0 ≤ (121 - u) * (v + 121) := Int.mul_nonneg (by omega) (by omega)
  have e1 : (u + 121) * (v + 121) = u * v + 121 * u + 121 * v + 14641 := by rw [Int.add_mul, Int.mul_add, Int.mul_add]; omega
  have e2 : (121 - u) * (121 - v) = u * v - 121 * u - 121 * v + 14641 := by rw [Int.sub_mul, Int.mul_sub, Int.mul_sub]; omega
  have e3 : (u + 121) * (121 - v) = -(u * v) + 121 * u - 121 * v + 14641 := by rw [Int.add_mul, Int.mul_sub, Int.mul_sub]; omega
  have e4 : (121 - u) * (v + 121) = -(u * v) - 121 * u + 121 * v + 14641 := by rw [Int.sub_mul, Int.mul_add, Int.mul_add]; omega
  omega
end Go.Proofs.YtmpmokefgdjnkaaGreat
/- Walks: the least rectangle of points, the program. -/


namespace Go.Proofs.YtmpmokefgdjnkaaGreat
open Go.RowKit
attribute [local go_sem] BelowBy.cell BelowBy.cell_drew stillUpon givesUpon

theorem Js.mv {S : Nat → Prop} {W0 w W : World} {z : Obj} {st st' : Option Nat} (h : Js S W0 w) (hm : Mv z st w st' W) : Js S W0 W := by
  rcases hm with ⟨_, rfl⟩ | ⟨_, _, rfl⟩
  · exact h
  · exact h.al z
set_option maxRecDepth 100000 in
set_option maxHeartbeats 4000000 in
theorem bounds_any {A : Option Addr} {n c : Nat} {ps : List Pt} {w : World} (h : RdSl 2 RPt w A n ps) (hn : 0 < n) (hm : n ≤ 100000) :
    Calls Tryz.prog 52 #[.slice A n c] w fun e w' => e = .returned (.tuple #[.agg #[.int .i64 (bxN ps n).lx, .int .i64 (bxN ps n).ly], .agg #[.int .i64 (bxN ps n).hx, .int .i64 (bxN ps n).hy]]) ∧ Below w.heap.size w w' := by
  have hA := Lib.hid h
  obtain ⟨b, o, rfl, hb, hc⟩ := h.ptr hn
  obtain ⟨e0, he0⟩ := h.get hn
  obtain ⟨d0, d1⟩ := hc 0 e0 he0
  simp only [Nat.zero_mul, Nat.add_zero] at d0 d1
  have hb0 := Lib.hid (show bxN ps 0 = ⟨e0.x, e0.y, e0.x, e0.y⟩ by simp [bxN, ptA, he0])
  have hnI : (0 : Int) < (n : Int) := by omega
  have hbs : b ≤ w.heap.size := by omega
  clear h hc he0
  go_enter Tryz.func52, Tryz.ntmps52
  go_wp2_with fail
  obtain ⟨W0, hW0⟩ : ∃ W0, ((w.alloc (.cells #[.int .i64 0, .int .i64 0] 89)).alloc (.cells #[.int .i64 0, .int .i64 0] 89)).drew = W0 := ⟨_, rfl⟩
  have k0 := Lib.hid (show Below w.heap.size w W0 by rw [← hW0]; exact bl_dr (bl_al (bl_al (bl_refl _) _) _))
  have x0 : W0.cell? ⟨b, o, none⟩ = some (.int .i64 e0.x) := (k0.out.cell (p := ⟨b, o, none⟩) hb).trans d0
  have x1 : W0.cell? ⟨b, o + 1, none⟩ = some (.int .i64 e0.y) := (k0.out.cell (p := ⟨b, o + 1, none⟩) hb).trans d1
  have p2 : PtB W0 w.heap.size 0 0 := by rw [← hW0]; exact ((PtB.new w 0 0).al _).dr
  have p3 : PtB W0 (w.heap.size + 1) 0 0 := by
    rw [← hW0]
    have := PtB.new (w.alloc (.cells #[.int .i64 0, .int .i64 0] 89)) 0 0
    simp only [World.size_alloc] at this
    exact this.dr
  have s0 : W0.heap.size = w.heap.size + 2 := by rw [← hW0]; simp
  have hbW : b < W0.heap.size := by omega
  have hJc : ∀ W, Js (fun _ => True) W0 W → ∀ o', W.cell? ⟨b, o', none⟩ = W0.cell? ⟨b, o', none⟩ := fun W hW o' => hW.cell o' trivial hbW
  refine wp_region_flJ 7 [(0, .p), (1, .p), (2, .p), (3, .p), (4, .p), (5, .p), (6, .g)] [(8, .b), (9, .b)] _ (Obj.cells #[.int .i64 0, .int .i64 0] 89) (by kernel_rfl) (by kernel_rfl) (by kernel_rfl) (by kernel_rfl) rfl (fun a w => ⟨rfl, by unfold flPtr; go_simp⟩) (Js (fun _ => True) W0) (by rw [hW0]; exact Js.refl _ _) (fun W h => h.al _) ?_
  simp only [pick, List.filterMap_cons, List.filterMap_nil, List.getElem?_toArray, List.getElem?_cons_zero, List.getElem?_cons_succ, Option.map_some]
  rw [hW0]
  repeat (with_reducible refine wpLJ_pv rfl (fun K hK => ?_); apply Exists.intro; apply And.intro; (focus (intro W hW; have hc := hJc W hW; go_simp; (first | done | rfl | exact ⟨rfl, rfl⟩))); go_simp; refine hK _ ?_; clear hK K)
  with_reducible refine wpLJ_g rfl (fun K hK st4 u4 mv4 => ?_)
  go_simp
  refine ⟨((Js.refl _ _).mv mv4).al _, Grew.of_alloc _, hK _ _ _ ?_⟩
  clear hK K
  with_reducible refine wpLJ_nil (fun b5 w5 mvF => ?_)
  have hu4 := mv4.below
  have huF := mvF.below
  have fu4 := (FlAt.none (Obj.cells #[.int .i64 0, .int .i64 0] 89) W0).mv mv4
  obtain ⟨fl5, fb5⟩ := ((fu4.below ((Below.refl _ _).alloc (Nat.le_refl _) (Obj.cells #[.int .i64 0, .int .i64 0] 89))).mv mvF).2 _ rfl
  have q5 : PtB w5 b5 0 0 := PtB.ofHeap fb5
  have q4 : PtB w5 u4.heap.size 0 0 := (PtB.new u4 0 0).below huF
  have s4 : W0.heap.size ≤ u4.heap.size := hu4.size
  have k5 := Lib.hid (show Below W0.heap.size W0 w5 from hu4.trans (((Below.refl _ u4).alloc (Nat.le_refl _) (Obj.cells #[.int .i64 0, .int .i64 0] 89)).mono s4 |>.trans (huF.mono (by simp only [World.size_alloc]; omega))))
  have ne45 : u4.heap.size ≠ b5 := by
    rcases mv4 with ⟨e, rfl⟩ | ⟨_, e, rfl⟩
    · rcases mvF with ⟨e2, _⟩ | ⟨_, e2, _⟩
      · rw [e] at e2; cases e2
      · injection e2 with e2; rw [e2]; simp
    · rcases mvF with ⟨e2, _⟩ | ⟨e2, _, _⟩
      · rw [e] at e2; injection e2 with e2; rw [e2]; simp
      · rw [e] at e2; cases e2
  obtain ⟨b4, hb4⟩ : ∃ b4, u4.heap.size = b4 := ⟨_, rfl⟩
  rw [hb4] at q4 s4 ne45 ⊢
  clear mv4 mvF hu4 huF fu4 fb5 hb4
  have q5H := Lib.hid q5
  have q4H := Lib.hid q4
  have hJ5 := Lib.hid (show Js (fun _ => True) W0 w5 from ⟨k5.out.size, fun b' _ hb' => k5.out.block b' hb'⟩)
  have r0 := q4.c0
  have r1 := q4.c1
  have r2 := q4.f0
  have r3 := q4.f1
  have r4 := q5.c0
  have r5 := q5.c1
  have r6 := q5.f0
  have r7 := q5.f1
  have ne45' : ¬ b4 = b5 := ne45
  have ne54' : ¬ b5 = b4 := fun e => ne45 e.symm
  clear q4 q5
  simp only [flPtr]
  with_reducible refine wpDJ_b (fun K hK => ?_)
  go_simp
  refine ⟨(hJ5.out.set (fun b' _ hb' => by omega) _).set (fun b' _ hb' => by omega) _, hK _ _ ?_⟩
  clear hK K
  with_reducible refine wpDJ_b (fun K hK => ?_)
  go_simp
  refine ⟨(((hJ5.out.set (fun b' _ hb' => by omega) _).set (fun b' _ hb' => by omega) _).set (fun b' _ hb' => by omega) _).set (fun b' _ hb' => by omega) _, hK _ _ ?_⟩
  clear hK K
  with_reducible refine wpDJ_nil ?_
  have q4 : PtB ((((w5.setCell ⟨b4, 0, none⟩ (.int .i64 e0.x)).setCell ⟨b4, 1, none⟩ (.int .i64 e0.y)).setCell ⟨b5, 0, none⟩ (.int .i64 e0.x)).setCell ⟨b5, 1, none⟩ (.int .i64 e0.y)) b4 e0.x e0.y := (q4H.out.put _ _).far2 ne45 _ _
  have q5 : PtB ((((w5.setCell ⟨b4, 0, none⟩ (.int .i64 e0.x)).setCell ⟨b4, 1, none⟩ (.int .i64 e0.y)).setCell ⟨b5, 0, none⟩ (.int .i64 e0.x)).setCell ⟨b5, 1, none⟩ (.int .i64 e0.y)) b5 e0.x e0.y := (q5H.out.far2 (fun e => ne45 e.symm) _ _).put _ _
  have k6 : Below W0.heap.size W0 ((((w5.setCell ⟨b4, 0, none⟩ (.int .i64 e0.x)).setCell ⟨b4, 1, none⟩ (.int .i64 e0.y)).setCell ⟨b5, 0, none⟩ (.int .i64 e0.x)).setCell ⟨b5, 1, none⟩ (.int .i64 e0.y)) :=
    (((k5.out.setCell (p := ⟨b4, 0, none⟩) s4 _).setCell (p := ⟨b4, 1, none⟩) s4 _).setCell (p := ⟨b5, 0, none⟩) fl5 _).setCell (p := ⟨b5, 1, none⟩) fl5 _
  generalize ((((w5.setCell ⟨b4, 0, none⟩ (.int .i64 e0.x)).setCell ⟨b4, 1, none⟩ (.int .i64 e0.y)).setCell ⟨b5, 0, none⟩ (.int .i64 e0.x)).setCell ⟨b5, 1, none⟩ (.int .i64 e0.y)) = w6 at q4 q5 k6 ⊢
  have q2 := p2.below k6
  have q3 := p3.below k6
  have k6H := Lib.hid (show Below w.heap.size w w6 from k0.out.trans (k6.mono (by omega)))
  have start := Lib.hid (show PtB w6 b4 (bxN ps 0).lx (bxN ps 0).ly ∧ PtB w6 b5 (bxN ps 0).hx (bxN ps 0).hy by rw [hb0.out]; exact ⟨q4, q5⟩)
  have q2H := Lib.hid q2
  have q3H := Lib.hid q3
  clear r0 r1 r2 r3 r4 r5 r6 r7 q2 q3 q4 q5 k6 x0 x1 p2 p3 hJc d0 d1 hb0 q4H q5H hJ5 k5
  go_wp2
  go_loopg [16] n (fun g i wr => ∃ j : Nat, j + g = n ∧ i = .int .i64 (j : Int) ∧ Hid (Below w.heap.size w wr) ∧ Hid (PtB wr w.heap.size 0 0) ∧ Hid (PtB wr (w.heap.size + 1) 0 0) ∧ Hid (PtB wr b4 (bxN ps j).lx (bxN ps j).ly ∧ PtB wr b5 (bxN ps j).hx (bxN ps j).hy))
  case atStart => exact ⟨0, by omega, rfl, k6H, q2H, q3H, start⟩
  case round =>
    obtain ⟨j, hj, rfl, hbw, hq2, hq3, hq⟩ := hrel
    have a0 := hq.out.1.c0
    have a1 := hq.out.1.c1
    have a2 := hq.out.1.f0
    have a3 := hq.out.1.f1
    have a4 := hq.out.1.lt
    have c0 := hq.out.2.c0
    have c1 := hq.out.2.c1
    have c2 := hq.out.2.f0
    have c3 := hq.out.2.f1
    have c4 := hq.out.2.lt
    have n4 : ¬ b4 = wr.heap.size := by omega
    have n5 : ¬ b5 = wr.heap.size := by omega
    have n4' : ¬ wr.heap.size = b4 := by omega
    have n5' : ¬ wr.heap.size = b5 := by omega
    by_cases hjn : j < n
    · have hAw := hA.out.below RPt.stable hbw.out
      obtain ⟨b', o', hbo, hbb, hc⟩ := hAw.ptr hn
      cases hbo
      obtain ⟨e, he⟩ := hAw.get hjn
      obtain ⟨d0, d1⟩ := hc j e he
      have hnx := Lib.hid (show ptA ps j = e by simp [ptA, he])
      have hjI : (j : Int) < (n : Int) := by omega
      have hj0 : (0 : Int) ≤ (j : Int) := by omega
      have hbs' : b ≤ wr.heap.size := by omega
      have hx := Lib.hid (show bxN ps (j + 1) = ⟨mn (bxN ps j).lx e.x, mn (bxN ps j).ly e.y, mx (bxN ps j).hx e.x, mx (bxN ps j).hy e.y⟩ by simp only [bxN]; rw [hnx.out])
      obtain ⟨m1, hm1⟩ : ∃ v, (if e.x < (bxN ps j).lx then e.x else (bxN ps j).lx) = v := ⟨_, rfl⟩
      obtain ⟨m2, hm2⟩ : ∃ v, (if e.y < (bxN ps j).ly then e.y else (bxN ps j).ly) = v := ⟨_, rfl⟩
      obtain ⟨m3, hm3⟩ : ∃ v, (if (bxN ps j).hx < e.x then e.x else (bxN ps j).hx) = v := ⟨_, rfl⟩
      obtain ⟨m4, hm4⟩ : ∃ v, (if (bxN ps j).hy < e.y then e.y else (bxN ps j).hy) = v := ⟨_, rfl⟩
      have hx2 := Lib.hid (show bxN ps (j + 1) = ⟨m1, m2, m3, m4⟩ by rw [hx.out, ← hm1, ← hm2, ← hm3, ← hm4]; rfl)
      clear hc he hAw hx
      go_wp2
      go_roundg (n - (j + 1))
      case measure => omega
      case rel =>
        have z2 : w.heap.size ≠ b4 := by omega
        have z3 : w.heap.size ≠ b5 := by omega
        have z4 : w.heap.size + 1 ≠ b4 := by omega
        have z5 : w.heap.size + 1 ≠ b5 := by omega
        have z6 : w.heap.size ≤ b4 := by omega
        have z7 : w.heap.size ≤ b5 := by omega
        exact ⟨j + 1, by omega, by go_num, Lib.hid (((((hbw.out.setCell (p := ⟨b4, 0, none⟩) z6 _).setCell (p := ⟨b4, 1, none⟩) z6 _).setCell (p := ⟨b5, 0, none⟩) z7 _).setCell (p := ⟨b5, 1, none⟩) z7 _).alloc (by simp only [World.size_setCell]; omega) _),
          Lib.hid (((hq2.out.far2 z2 _ _).far2 z3 _ _).al _), Lib.hid (((hq3.out.far2 z4 _ _).far2 z5 _ _).al _), Lib.hid (by rw [hx2.out]; exact ⟨((hq.out.1.put _ _).far2 ne45 _ _).al _, ((hq.out.2.far2 (fun e => ne45 e.symm) _ _).put _ _).al _⟩)⟩
    · obtain rfl : j = n := by omega
      go_wp2_with fail
      have hJc : ∀ W, Js (fun x => x ≠ w.heap.size ∧ x ≠ w.heap.size + 1) wr.drew W → ∀ o', W.cell? ⟨b4, o', none⟩ = wr.cell? ⟨b4, o', none⟩ ∧ W.cell? ⟨b5, o', none⟩ = wr.cell? ⟨b5, o', none⟩ := fun W hW o' =>
        ⟨hW.cell o' ⟨by omega, by omega⟩ (by exact a4), hW.cell o' ⟨by omega, by omega⟩ (by exact c4)⟩
      refine wp_region_ordJ [(0, .p), (1, .p), (2, .b), (3, .b)] (by kernel_rfl) (by kernel_rfl) (Js (fun x => x ≠ w.heap.size ∧ x ≠ w.heap.size + 1) wr.drew) (Js.refl _ _) ?_
      simp only [pick, List.filterMap_cons, List.filterMap_nil, List.getElem?_toArray, List.getElem?_cons_zero, List.getElem?_cons_succ, Option.map_some]
      have e0' := hq2.out.c0
      have e1' := hq2.out.c1
      have e2' := hq2.out.f0
      have e3' := hq2.out.f1
      have e4' := hq3.out.c0
      have e5' := hq3.out.c1
      have e6' := hq3.out.f0
      have e7' := hq3.out.f1
      repeat (with_reducible refine wpDJ_pv rfl (fun K hK => ?_); apply Exists.intro; apply And.intro; (focus (intro W hW; have hc := hJc W hW; go_simp; (first | done | rfl | exact ⟨rfl, rfl⟩))); go_simp; refine hK _ ?_; clear hK K)
      clear hJc
      with_reducible refine wpDJ_b (fun K hK => ?_)
      go_simp
      refine ⟨((Js.refl _ wr.drew).set (p := w.heap.size) (fun b' hs _ => hs.1) _).set (p := w.heap.size) (fun b' hs _ => hs.1) _, hK _ _ ?_⟩
      clear hK K
      with_reducible refine wpDJ_b (fun K hK => ?_)
      go_simp
      refine ⟨((((Js.refl _ wr.drew).set (p := w.heap.size) (fun b' hs _ => hs.1) _).set (p := w.heap.size) (fun b' hs _ => hs.1) _).set (p := w.heap.size + 1) (fun b' hs _ => hs.2) _).set (p := w.heap.size + 1) (fun b' hs _ => hs.2) _, hK _ _ ?_⟩
      clear hK K
      with_reducible refine wpDJ_nil ?_
      go_wp2
      refine bodyPost_ret (v := .tuple #[.agg #[.int .i64 (bxN ps j).lx, .int .i64 (bxN ps j).ly], .agg #[.int .i64 (bxN ps j).hx, .int .i64 (bxN ps j).hy]]) (by simp only [results, Tryz.results52]; go_simp) rfl ?_
      exact ⟨rfl, (((hbw.out.drew.setCell (p := ⟨w.heap.size, 0, none⟩) (Nat.le_refl _) _).setCell (p := ⟨w.heap.size, 1, none⟩) (Nat.le_refl _) _).setCell (p := ⟨w.heap.size + 1, 0, none⟩) (Nat.le_succ _) _).setCell (p := ⟨w.heap.size + 1, 1, none⟩) (Nat.le_succ _) _⟩
end Go.Proofs.YtmpmokefgdjnkaaGreat
/- Walks: the least rectangle of points, the reference; the area, both. -/

namespace Go.Proofs.YtmpmokefgdjnkaaGreat
open Go.RowKit
attribute [local go_sem] BelowBy.cell BelowBy.cell_drew stillUpon givesUpon

theorem l00Min_v {x y r : Int} (w : World) (h : mn x y = r) :
    Calls Tryz.prog 70 #[.int .i64 x, .int .i64 y] w fun e w' => e = .returned (.int .i64 r) ∧ w = w' := by
  subst h
  by_cases hh : x < y
  · have hr := Lib.hid (show mn x y = x by unfold mn; split <;> omega)
    go_enter Tryz.func70, Tryz.ntmps70
    go_wp2
    go_ret
    exact ⟨ret_int hr.out.symm, rfl⟩
  · have hr := Lib.hid (show mn x y = y by unfold mn; split <;> omega)
    go_enter Tryz.func70, Tryz.ntmps70
    go_wp2
    go_ret
    exact ⟨ret_int hr.out.symm, rfl⟩
theorem l00Max_v {x y r : Int} (w : World) (h : mx x y = r) :
    Calls Tryz.prog 71 #[.int .i64 x, .int .i64 y] w fun e w' => e = .returned (.int .i64 r) ∧ w = w' := by
  subst h
  by_cases hh : y < x
  · have hr := Lib.hid (show mx x y = x by unfold mx; split <;> omega)
    go_enter Tryz.func71, Tryz.ntmps71
    go_wp2
    go_ret
    exact ⟨ret_int hr.out.symm, rfl⟩
  · have hr := Lib.hid (show mx x y = y by unfold mx; split <;> omega)
    go_enter Tryz.func71, Tryz.ntmps71
    go_wp2
    go_ret
    exact ⟨ret_int hr.out.symm, rfl⟩
set_option maxRecDepth 100000 in
set_option maxHeartbeats 4000000 in
theorem l03Bounds_any {A : Option Addr} {n c : Nat} {ps : List Pt} {w : World} (h : RdSl 2 RPt w A n ps) (hn : 0 < n) (hm : n ≤ 100000) :
    Calls Tryz.prog 39 #[.slice A n c] w fun e w' => e = .returned (.tuple #[.agg #[.int .i64 (bxN ps n).lx, .int .i64 (bxN ps n).ly], .agg #[.int .i64 (bxN ps n).hx, .int .i64 (bxN ps n).hy]]) ∧ Below w.heap.size w w' := by
  have hA := Lib.hid h
  obtain ⟨b, o, rfl, hb, hc⟩ := h.ptr hn
  obtain ⟨e0, he0⟩ := h.get hn
  obtain ⟨d0, d1⟩ := hc 0 e0 he0
  simp only [Nat.zero_mul, Nat.add_zero] at d0 d1
  have hb0 := Lib.hid (show bxN ps 1 = ⟨e0.x, e0.y, e0.x, e0.y⟩ by rw [bxN_one]; simp [bxN, ptA, he0])
  have hnI : (0 : Int) < (n : Int) := by omega
  have hbs : b ≤ w.heap.size := by omega
  have hbs1 : b ≤ w.heap.size + 1 := by omega
  have hbs2 : b ≤ w.heap.size + 1 + 1 := by omega
  have hbn1 : ¬ b = w.heap.size := by omega
  have hbn2 : ¬ b = w.heap.size + 1 := by omega
  have hbn3 : ¬ b = w.heap.size + 1 + 1 := by omega
  have hbl1 : b < w.heap.size + 1 := by omega
  have hbl2 : b < w.heap.size + 1 + 1 := by omega
  have hbl3 : b < w.heap.size + 1 + 1 + 1 := by omega
  clear h hc he0
  go_enter Tryz.func39, Tryz.ntmps39
  have q2 : PtB ((((w.alloc (.cells #[.int .i64 0, .int .i64 0] 89)).alloc (.cells #[.int .i64 0, .int .i64 0] 89)).alloc (.cells #[.int .i64 e0.x, .int .i64 e0.y] 89)).alloc (.cells #[.int .i64 e0.x, .int .i64 e0.y] 89)) w.heap.size 0 0 := (((PtB.new w 0 0).al _).al _).al _
  have q3 : PtB ((((w.alloc (.cells #[.int .i64 0, .int .i64 0] 89)).alloc (.cells #[.int .i64 0, .int .i64 0] 89)).alloc (.cells #[.int .i64 e0.x, .int .i64 e0.y] 89)).alloc (.cells #[.int .i64 e0.x, .int .i64 e0.y] 89)) (w.heap.size + 1) 0 0 := by
    have := PtB.new (w.alloc (.cells #[.int .i64 0, .int .i64 0] 89)) 0 0
    simp only [World.size_alloc] at this
    exact (this.al _).al _
  have q4 : PtB ((((w.alloc (.cells #[.int .i64 0, .int .i64 0] 89)).alloc (.cells #[.int .i64 0, .int .i64 0] 89)).alloc (.cells #[.int .i64 e0.x, .int .i64 e0.y] 89)).alloc (.cells #[.int .i64 e0.x, .int .i64 e0.y] 89)) (w.heap.size + 1 + 1) e0.x e0.y := by
    have := PtB.new ((w.alloc (.cells #[.int .i64 0, .int .i64 0] 89)).alloc (.cells #[.int .i64 0, .int .i64 0] 89)) e0.x e0.y
    simp only [World.size_alloc] at this
    exact this.al _
  have q5 : PtB ((((w.alloc (.cells #[.int .i64 0, .int .i64 0] 89)).alloc (.cells #[.int .i64 0, .int .i64 0] 89)).alloc (.cells #[.int .i64 e0.x, .int .i64 e0.y] 89)).alloc (.cells #[.int .i64 e0.x, .int .i64 e0.y] 89)) (w.heap.size + 1 + 1 + 1) e0.x e0.y := by
    have := PtB.new (((w.alloc (.cells #[.int .i64 0, .int .i64 0] 89)).alloc (.cells #[.int .i64 0, .int .i64 0] 89)).alloc (.cells #[.int .i64 e0.x, .int .i64 e0.y] 89)) e0.x e0.y
    simp only [World.size_alloc] at this
    exact this
  have k6H := Lib.hid (show Below w.heap.size w ((((w.alloc (.cells #[.int .i64 0, .int .i64 0] 89)).alloc (.cells #[.int .i64 0, .int .i64 0] 89)).alloc (.cells #[.int .i64 e0.x, .int .i64 e0.y] 89)).alloc (.cells #[.int .i64 e0.x, .int .i64 e0.y] 89)) from bl_al (bl_al (bl_al (bl_al (bl_refl _) _) _) _) _)
  have q2H := Lib.hid q2
  have q3H := Lib.hid q3
  have start := Lib.hid (show PtB ((((w.alloc (.cells #[.int .i64 0, .int .i64 0] 89)).alloc (.cells #[.int .i64 0, .int .i64 0] 89)).alloc (.cells #[.int .i64 e0.x, .int .i64 e0.y] 89)).alloc (.cells #[.int .i64 e0.x, .int .i64 e0.y] 89)) (w.heap.size + 1 + 1) (bxN ps 1).lx (bxN ps 1).ly ∧
    PtB ((((w.alloc (.cells #[.int .i64 0, .int .i64 0] 89)).alloc (.cells #[.int .i64 0, .int .i64 0] 89)).alloc (.cells #[.int .i64 e0.x, .int .i64 e0.y] 89)).alloc (.cells #[.int .i64 e0.x, .int .i64 e0.y] 89)) (w.heap.size + 1 + 1 + 1) (bxN ps 1).hx (bxN ps 1).hy by rw [hb0.out]; exact ⟨q4, q5⟩)
  clear q2 q3 q4 q5 hb0
  go_wp2
  generalize ((((w.alloc (.cells #[.int .i64 0, .int .i64 0] 89)).alloc (.cells #[.int .i64 0, .int .i64 0] 89)).alloc (.cells #[.int .i64 e0.x, .int .i64 e0.y] 89)).alloc (.cells #[.int .i64 e0.x, .int .i64 e0.y] 89)) = w6 at k6H q2H q3H start ⊢
  obtain ⟨b4, hb4⟩ : ∃ b4, w.heap.size + 1 + 1 = b4 := ⟨_, rfl⟩
  rw [hb4] at start ⊢
  obtain ⟨b5, hb5⟩ : ∃ b5, b4 + 1 = b5 := ⟨_, rfl⟩
  rw [hb5] at start ⊢
  have ne45 : b4 ≠ b5 := by omega
  have ne45' : ¬ b4 = b5 := ne45
  have ne54' : ¬ b5 = b4 := fun e => ne45 e.symm
  have z6 : w.heap.size ≤ b4 := by omega
  have z7 : w.heap.size ≤ b5 := by omega
  have z2 : w.heap.size ≠ b4 := by omega
  have z3 : w.heap.size ≠ b5 := by omega
  have z4 : w.heap.size + 1 ≠ b4 := by omega
  have z5 : w.heap.size + 1 ≠ b5 := by omega
  have y4 : ¬ b = b4 := by omega
  have y5 : ¬ b = b5 := by omega
  clear hbn1 hbn2 hbn3 hbl1 hbl2 hbl3 hbs hbs1 hbs2 d0 d1 hb4 hb5
  go_loopg [6] (n - 1) (fun g i wr => ∃ j : Nat, j + g = n ∧ i = .int .i64 (j : Int) ∧ Hid (Below w.heap.size w wr) ∧ Hid (PtB wr w.heap.size 0 0) ∧ Hid (PtB wr (w.heap.size + 1) 0 0) ∧ Hid (PtB wr b4 (bxN ps j).lx (bxN ps j).ly ∧ PtB wr b5 (bxN ps j).hx (bxN ps j).hy))
  case atStart => exact ⟨1, by omega, rfl, k6H, q2H, q3H, start⟩
  case round =>
    obtain ⟨j, hj, rfl, hbw, hq2, hq3, hq⟩ := hrel
    have a0 := hq.out.1.c0
    have a1 := hq.out.1.c1
    have a2 := hq.out.1.f0
    have a3 := hq.out.1.f1
    have a4 := hq.out.1.lt
    have c0 := hq.out.2.c0
    have c1 := hq.out.2.c1
    have c2 := hq.out.2.f0
    have c3 := hq.out.2.f1
    have c4 := hq.out.2.lt
    by_cases hjn : j < n
    · have hAw := hA.out.below RPt.stable hbw.out
      obtain ⟨b', o', hbo, hbb, hc⟩ := hAw.ptr hn
      cases hbo
      obtain ⟨e, he⟩ := hAw.get hjn
      obtain ⟨d0, d1⟩ := hc j e he
      have hnx := Lib.hid (show ptA ps j = e by simp [ptA, he])
      have hjI : (j : Int) < (n : Int) := by omega
      have hj0 : (0 : Int) ≤ (j : Int) := by omega
      have hbs' : b ≤ wr.heap.size := by omega
      obtain ⟨m1, hm1⟩ : ∃ v, mn (bxN ps j).lx e.x = v := ⟨_, rfl⟩
      obtain ⟨m2, hm2⟩ : ∃ v, mn (bxN ps j).ly e.y = v := ⟨_, rfl⟩
      obtain ⟨m3, hm3⟩ : ∃ v, mx (bxN ps j).hx e.x = v := ⟨_, rfl⟩
      obtain ⟨m4, hm4⟩ : ∃ v, mx (bxN ps j).hy e.y = v := ⟨_, rfl⟩
      have hx2 := Lib.hid (show bxN ps (j + 1) = ⟨m1, m2, m3, m4⟩ by simp only [bxN]; rw [hnx.out, hm1, hm2, hm3, hm4])
      have h1H := Lib.hid hm1
      have h2H := Lib.hid hm2
      have h3H := Lib.hid hm3
      have h4H := Lib.hid hm4
      clear hc he hAw hm1 hm2 hm3 hm4
      go_wp2
      refine wp_region_ord [(0, .q), (1, .q), (2, .q), (3, .q), (4, .q), (5, .q), (6, .q), (8, .q), (9, .q), (10, .q), (11, .q), (12, .q), (13, .q), (14, .q), (7, .g), (15, .g), (16, .q), (17, .b)] (by kernel_rfl) (by kernel_rfl) ?_
      simp only [pick, List.filterMap_cons, List.filterMap_nil, List.getElem?_toArray, List.getElem?_cons_zero, List.getElem?_cons_succ, Option.map_some]
      repeat (first
        | ((with_reducible refine wpD_p (fun K hK => ?_)); go_simp; refine hK _ ?_; clear hK K)
        | ((with_reducible refine wpD_q (fun K hK => ?_)); go_simp; (first | refine hK _ ?_ | (go_bits; refine hK _ ?_) | (go_bits; go_simp; refine hK _ ?_)); clear hK K)
        | ((with_reducible refine wpD_g (fun K hK => ?_)); go_simp; refine hK _ _ ?_; clear hK K)
        | ((with_reducible refine wpD_g (fun K hK => ?_)); go_simp; refine ⟨Grew.of_alloc _, hK _ _ ?_⟩; clear hK K)
        | ((with_reducible refine wpD_g (fun K hK => ?_)); go_simp; go_at_call 70; refine (l00Min_v _ (by first | exact h1H.out | exact h2H.out)).mono ?_; rintro e _ ⟨rfl, rfl⟩; refine ⟨_, rfl, Below.refl _ _, hK _ _ ?_⟩; clear hK K))
      with_reducible refine wpD_b (fun K hK => ?_)
      go_simp
      refine hK _ _ ?_
      clear hK K
      with_reducible refine wpD_nil ?_
      go_wp2
      refine wp_region_ord [(0, .q), (1, .q), (2, .q), (3, .q), (4, .q), (5, .q), (6, .q), (8, .q), (9, .q), (10, .q), (11, .q), (12, .q), (13, .q), (14, .q), (7, .g), (15, .g), (16, .q), (17, .b)] (by kernel_rfl) (by kernel_rfl) ?_
      simp only [pick, List.filterMap_cons, List.filterMap_nil, List.getElem?_toArray, List.getElem?_cons_zero, List.getElem?_cons_succ, Option.map_some]
      repeat (first
        | ((with_reducible refine wpD_p (fun K hK => ?_)); go_simp; refine hK _ ?_; clear hK K)
        | ((with_reducible refine wpD_q (fun K hK => ?_)); go_simp; (first | refine hK _ ?_ | (go_bits; refine hK _ ?_) | (go_bits; go_simp; refine hK _ ?_)); clear hK K)
        | ((with_reducible refine wpD_g (fun K hK => ?_)); go_simp; refine hK _ _ ?_; clear hK K)
        | ((with_reducible refine wpD_g (fun K hK => ?_)); go_simp; refine ⟨Grew.of_alloc _, hK _ _ ?_⟩; clear hK K)
        | ((with_reducible refine wpD_g (fun K hK => ?_)); go_simp; go_at_call 71; refine (l00Max_v _ (by first | exact h3H.out | exact h4H.out)).mono ?_; rintro e _ ⟨rfl, rfl⟩; refine ⟨_, rfl, Below.refl _ _, hK _ _ ?_⟩; clear hK K))
      with_reducible refine wpD_b (fun K hK => ?_)
      go_simp
      refine hK _ _ ?_
      clear hK K
      with_reducible refine wpD_nil ?_
      go_wp2
      go_roundg (n - (j + 1))
      case measure => omega
      case rel =>
        exact ⟨j + 1, by omega, by go_num, Lib.hid ((((hbw.out.setCell (p := ⟨b4, 0, none⟩) z6 _).setCell (p := ⟨b4, 1, none⟩) z6 _).setCell (p := ⟨b5, 0, none⟩) z7 _).setCell (p := ⟨b5, 1, none⟩) z7 _).drew.drew,
          Lib.hid (((hq2.out.far2 z2 _ _).far2 z3 _ _).dr.dr), Lib.hid (((hq3.out.far2 z4 _ _).far2 z5 _ _).dr.dr), Lib.hid (by rw [hx2.out]; exact ⟨((hq.out.1.put _ _).far2 ne45 _ _).dr.dr, ((hq.out.2.far2 (fun e => ne45 e.symm) _ _).put _ _).dr.dr⟩)⟩
    · obtain rfl : j = n := by omega
      go_wp2_with fail
      have hJc : ∀ W, Js (fun x => x ≠ w.heap.size ∧ x ≠ w.heap.size + 1) wr.drew W → ∀ o', W.cell? ⟨b4, o', none⟩ = wr.cell? ⟨b4, o', none⟩ ∧ W.cell? ⟨b5, o', none⟩ = wr.cell? ⟨b5, o', none⟩ := fun W hW o' =>
        ⟨hW.cell o' ⟨by omega, by omega⟩ (by exact a4), hW.cell o' ⟨by omega, by omega⟩ (by exact c4)⟩
      refine wp_region_ordJ [(0, .p), (1, .p), (2, .b), (3, .b)] (by kernel_rfl) (by kernel_rfl) (Js (fun x => x ≠ w.heap.size ∧ x ≠ w.heap.size + 1) wr.drew) (Js.refl _ _) ?_
      simp only [pick, List.filterMap_cons, List.filterMap_nil, List.getElem?_toArray, List.getElem?_cons_zero, List.getElem?_cons_succ, Option.map_some]
      have e0' := hq2.out.c0
      have e1' := hq2.out.c1
      have e2' := hq2.out.f0
      have e3' := hq2.out.f1
      have e4' := hq3.out.c0
      have e5' := hq3.out.c1
      have e6' := hq3.out.f0
      have e7' := hq3.out.f1
      repeat (with_reducible refine wpDJ_pv rfl (fun K hK => ?_); apply Exists.intro; apply And.intro; (focus (intro W hW; have hc := hJc W hW; go_simp; (first | done | rfl | exact ⟨rfl, rfl⟩))); go_simp; refine hK _ ?_; clear hK K)
      clear hJc
      with_reducible refine wpDJ_b (fun K hK => ?_)
      go_simp
      refine ⟨((Js.refl _ wr.drew).set (p := w.heap.size) (fun b' hs _ => hs.1) _).set (p := w.heap.size) (fun b' hs _ => hs.1) _, hK _ _ ?_⟩
      clear hK K
      with_reducible refine wpDJ_b (fun K hK => ?_)
      go_simp
      refine ⟨((((Js.refl _ wr.drew).set (p := w.heap.size) (fun b' hs _ => hs.1) _).set (p := w.heap.size) (fun b' hs _ => hs.1) _).set (p := w.heap.size + 1) (fun b' hs _ => hs.2) _).set (p := w.heap.size + 1) (fun b' hs _ => hs.2) _, hK _ _ ?_⟩
      clear hK K
      with_reducible refine wpDJ_nil ?_
      go_wp2
      refine bodyPost_ret (v := .tuple #[.agg #[.int .i64 (bxN ps j).lx, .int .i64 (bxN ps j).ly], .agg #[.int .i64 (bxN ps j).hx, .int .i64 (bxN ps j).hy]]) (by simp only [results, Tryz.results39]; go_simp) rfl ?_
      exact ⟨rfl, (((hbw.out.drew.setCell (p := ⟨w.heap.size, 0, none⟩) (Nat.le_refl _) _).setCell (p := ⟨w.heap.size, 1, none⟩) (Nat.le_refl _) _).setCell (p := ⟨w.heap.size + 1, 0, none⟩) (Nat.le_succ _) _).setCell (p := ⟨w.heap.size + 1, 1, none⟩) (Nat.le_succ _) _⟩
theorem areaI_wraps {bx : Bx} (h1 : -60 ≤ bx.lx ∧ bx.lx ≤ 60) (h2 : -60 ≤ bx.ly ∧ bx.ly ≤ 60) (h3 : -60 ≤ bx.hx ∧ bx.hx ≤ 60) (h4 : -60 ≤ bx.hy ∧ bx.hy ≤ 60) :
    IntKind.i64.wrap (bx.hx - bx.lx) = bx.hx - bx.lx ∧ IntKind.i64.wrap (bx.hx - bx.lx + 1) = bx.hx - bx.lx + 1 ∧ IntKind.i64.wrap (bx.hy - bx.ly) = bx.hy - bx.ly ∧ IntKind.i64.wrap (bx.hy - bx.ly + 1) = bx.hy - bx.ly + 1 ∧
      IntKind.i64.wrap ((bx.hx - bx.lx + 1) * (bx.hy - bx.ly + 1)) = areaI bx := by
  have hW : ∀ n : Int, -9000000000000000000 ≤ n → n ≤ 9000000000000000000 → IntKind.i64.wrap n = n := fun n h1 h2 => by
    simp [IntKind.wrap, IntKind.bits, IntKind.signed]; omega
  have hr := areaI_rng h1 h2 h3 h4
  exact ⟨hW _ (by omega) (by omega), hW _ (by omega) (by omega), hW _ (by omega) (by omega), hW _ (by omega) (by omega), hW (areaI bx) (by omega) (by omega)⟩
end Go.Proofs.YtmpmokefgdjnkaaGreat
