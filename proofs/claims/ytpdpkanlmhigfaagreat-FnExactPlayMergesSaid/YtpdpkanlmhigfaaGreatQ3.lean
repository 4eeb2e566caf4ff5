/- Points by their places in a shape; maps from points to bools that a call makes. -/
import Derived.Test.YtpdpkanlmhigfaaGreatW70
import Derived.Test.YtpdpkanlmhigfaaGreatPts
import Derived.Test.YtpdpkanlmhigfaaGreatKQ
import Derived.Test.YtpdpkanlmhigfaaGreatW12
namespace Go.Proofs.YtpdpkanlmhigfaaGreat
open Go.RowKit Go.Shelf
set_option linter.unusedSimpArgs false
set_option linter.unusedVariables false
open Go.Maps (Keyed)
set_option maxRecDepth 100000
/-- points in ascending order, all valid -/
structure Shp (ps : List Pt) : Prop where
  pt : ∀ (k : Nat) (e : Pt), ps[k]? = some e → (-60 ≤ e.x ∧ e.x ≤ 60) ∧ (-60 ≤ e.y ∧ e.y ≤ 60)
  sorted : ∀ (i j : Nat) (d e : Pt), i < j → ps[i]? = some d → ps[j]? = some e → lessPt d.x d.y e.x e.y = true
theorem lessPt_irrefl (x y : Int) : lessPt x y x y = false := by simp [lessPt, cmpPt, orI, cmpI]
theorem Shp.inj {ps : List Pt} (h : Shp ps) {i j : Nat} {e : Pt} (hi : ps[i]? = some e) (hj : ps[j]? = some e) : i = j := by
  rcases Nat.lt_trichotomy i j with hlt | heq | hlt
  · have := h.sorted i j e e hlt hi hj
    rw [lessPt_irrefl] at this
    cases this
  · exact heq
  · have := h.sorted j i e e hlt hj hi
    rw [lessPt_irrefl] at this
    cases this
/-- the place of a point -/
def idxP (ps : List Pt) (x y : Int) : Option Nat := ps.findIdx? fun e => e.x == x && e.y == y
theorem idxP_some {ps : List Pt} {x y : Int} {k : Nat} (h : idxP ps x y = some k) : ps[k]? = some ⟨x, y⟩ := by
  unfold idxP at h
  rw [List.findIdx?_eq_some_iff_getElem] at h
  obtain ⟨hk, hp, _⟩ := h
  simp only [Bool.and_eq_true, beq_iff_eq] at hp
  rw [List.getElem?_eq_getElem hk]
  have : ps[k] = ⟨x, y⟩ := by
    cases hh : ps[k] with
    | mk a b => rw [hh] at hp; simp only at hp; rw [hp.1, hp.2]
  rw [this]
theorem idxP_none {ps : List Pt} {x y : Int} (h : idxP ps x y = none) (k : Nat) : ps[k]? ≠ some ⟨x, y⟩ := by
  intro hk
  unfold idxP at h
  rw [List.findIdx?_eq_none_iff] at h
  have := h _ (List.mem_of_getElem? hk)
  simp at this
theorem Shp.idx {ps : List Pt} (h : Shp ps) {k : Nat} {e : Pt} (hk : ps[k]? = some e) : idxP ps e.x e.y = some k := by
  cases hi : idxP ps e.x e.y with
  | none => exact absurd hk (idxP_none hi k)
  | some j => rw [h.inj hk (idxP_some hi)]
/-- the neighbor of a point, by their places -/
def nbP (ps : List Pt) (u d : Nat) : Option Nat := match ps[u]? with
  | some e => idxP ps (stepX e.x d) (stepY e.y d)
  | none => none
theorem nbP_sym {ps : List Pt} (h : Shp ps) (u d v : Nat) (hu : u < ps.length) (hd : d < 4) (hv : nbP ps u d = some v) : v < ps.length ∧ ∃ e, e < 4 ∧ nbP ps v e = some u := by
  obtain ⟨e, he⟩ : ∃ e, ps[u]? = some e := ⟨_, List.getElem?_eq_getElem hu⟩
  unfold nbP at hv
  rw [he] at hv
  simp only at hv
  have hk := idxP_some hv
  refine ⟨(List.getElem?_eq_some_iff.1 hk).1, (d + 2) % 4, by omega, ?_⟩
  unfold nbP
  rw [hk]
  simp only
  have hb : stepX (stepX e.x d) (((d + 2) % 4 : Nat) : Int) = e.x ∧ stepY (stepY e.y d) (((d + 2) % 4 : Nat) : Int) = e.y := by
    have : d = 0 ∨ d = 1 ∨ d = 2 ∨ d = 3 := by omega
    rcases this with rfl | rfl | rfl | rfl <;> simp [stepX, stepY]
  rw [hb.1, hb.2]
  exact h.idx he
/-- the points that are not yet taken -/
def leftB (ps : List Pt) (nm : List Nat) (x y : Int) : Bool := match idxP ps x y with
  | some v => decide (nm[v]? = some 0)
  | none => false
theorem leftB_set {ps : List Pt} (h : Shp ps) {nm : List Nat} {v c : Nat} {e : Pt} (he : ps[v]? = some e) (hv : v < nm.length) (hc : c ≠ 0) (x y : Int) : leftB ps (nm.set v c) x y = (leftB ps nm x y && !decide (x = e.x ∧ y = e.y)) := by
  unfold leftB
  cases hi : idxP ps x y with
  | none => simp
  | some k =>
    have hk := idxP_some hi
    by_cases hkv : v = k
    · subst hkv
      rw [he] at hk
      injection hk with hk
      subst hk
      simp only [List.getElem?_set_self hv]
      simp [hc]
    · simp only [List.getElem?_set_ne hkv]
      have hne : ¬ (x = e.x ∧ y = e.y) := fun hh => by
        obtain ⟨rfl, rfl⟩ := hh
        exact hkv (h.inj he hk)
      simp [hne]
/-- block b maps points to bools: S; at most n were laid in -/
def LMap (w : World) (b n : Nat) (S : Int → Int → Bool) : Prop :=
  ∃ D : DataW Unit, w.ownsMap Tryz.prog 56 (plainElem Tryz.prog 4) b n D ∧ ∀ x y, W64 x → W64 y → D.atKey (pkey x y) (.lit (.bool false)) = .lit (.bool (S x y))
section
variable {w w' : World} {b n : Nat} {S S' : Int → Int → Bool}
theorem LMap.made (w : World) : LMap (w.alloc (.map #[] 0)) w.heap.size 0 (fun _ _ => false) :=
  ⟨_, World.ownsMap_made _ _ _ _, fun x y _ _ => WideAt.atKey_none _ (fun p hp => by simp at hp)⟩
theorem LMap.lt (h : LMap w b n S) : b < w.heap.size := by
  obtain ⟨D, h, _⟩ := h
  exact h.lt
theorem LMap.block (h : LMap w b n S) (hb : w'.heap[b]? = w.heap[b]?) : LMap w' b n S := by
  obtain ⟨D, ⟨es, clock, hh, r⟩, h2⟩ := h
  exact ⟨D, ⟨es, clock, hb.trans hh, r⟩, h2⟩
theorem LMap.below (h : LMap w b n S) (hb : Below w.heap.size w w') : LMap w' b n S := h.block (hb.block b h.lt)
theorem LMap.say (h : LMap w b n S) (hS : ∀ x y, S x y = S' x y) : LMap w b n S' := by
  obtain rfl : S = S' := funext fun x => funext fun y => hS x y
  exact h
end
section
variable {ops : Array Oper} {rest : List Oper} {o : Oper} {a : Act} {Q : Exit → Act → World → Prop}
theorem zero_bo (w : World) : (zeroValue 4).run Tryz.prog w = .ok (.bool false) w := by kernel_rfl
end
end Go.Proofs.YtpdpkanlmhigfaaGreat
