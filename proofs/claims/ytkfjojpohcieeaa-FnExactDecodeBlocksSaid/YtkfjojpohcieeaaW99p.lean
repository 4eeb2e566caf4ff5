/- Plain: the least rectangle of points. -/
import Derived.Test.YtkfjojpohcieeaaPts
namespace Go.Proofs.Ytkfjojpohcieeaa
open Go.RowKit
set_option linter.unusedSimpArgs false
set_option linter.unusedVariables false
def mn (x y : Int) : Int := if y < x then y else x
def mx (x y : Int) : Int := if x < y then y else x
theorem mn_self (x : Int) : mn x x = x := by unfold mn; split <;> rfl
theorem mx_self (x : Int) : mx x x = x := by unfold mx; split <;> rfl
structure Bx where
  lx : Int
  ly : Int
  hx : Int
  hy : Int
def ptA (ps : List Pt) (k : Nat) : Pt := (ps[k]?).getD ⟨0, 0⟩
/-- the least rectangle of the first point and of the first k points -/
def bxN (ps : List Pt) : Nat → Bx
  | 0 => ⟨(ptA ps 0).x, (ptA ps 0).y, (ptA ps 0).x, (ptA ps 0).y⟩
  | k + 1 => ⟨mn (bxN ps k).lx (ptA ps k).x, mn (bxN ps k).ly (ptA ps k).y, mx (bxN ps k).hx (ptA ps k).x, mx (bxN ps k).hy (ptA ps k).y⟩
theorem bxN_one (ps : List Pt) : bxN ps 1 = bxN ps 0 := by
  simp only [bxN, mn_self, mx_self]
theorem mn_rng {x y : Int} (hx : -60 ≤ x ∧ x ≤ 60) (hy : -60 ≤ y ∧ y ≤ 60) : -60 ≤ mn x y ∧ mn x y ≤ 60 := by unfold mn; split <;> assumption
theorem mx_rng {x y : Int} (hx : -60 ≤ x ∧ x ≤ 60) (hy : -60 ≤ y ∧ y ≤ 60) : -60 ≤ mx x y ∧ mx x y ≤ 60 := by unfold mx; split <;> assumption
theorem bxN_rng {ps : List Pt} (h : ∀ k, (-60 ≤ (ptA ps k).x ∧ (ptA ps k).x ≤ 60) ∧ (-60 ≤ (ptA ps k).y ∧ (ptA ps k).y ≤ 60)) : ∀ k, (-60 ≤ (bxN ps k).lx ∧ (bxN ps k).lx ≤ 60) ∧ (-60 ≤ (bxN ps k).ly ∧ (bxN ps k).ly ≤ 60) ∧ (-60 ≤ (bxN ps k).hx ∧ (bxN ps k).hx ≤ 60) ∧ (-60 ≤ (bxN ps k).hy ∧ (bxN ps k).hy ≤ 60)
  | 0 => ⟨(h 0).1, (h 0).2, (h 0).1, (h 0).2⟩
  | k + 1 => by
    obtain ⟨a, b, c, d⟩ := bxN_rng h k
    exact ⟨mn_rng a (h k).1, mn_rng b (h k).2, mx_rng c (h k).1, mx_rng d (h k).2⟩
def areaI (b : Bx) : Int := (b.hx - b.lx + 1) * (b.hy - b.ly + 1)
theorem areaI_rng {b : Bx} (h1 : -60 ≤ b.lx ∧ b.lx ≤ 60) (h2 : -60 ≤ b.ly ∧ b.ly ≤ 60) (h3 : -60 ≤ b.hx ∧ b.hx ≤ 60) (h4 : -60 ≤ b.hy ∧ b.hy ≤ 60) : -20000 ≤ areaI b ∧ areaI b ≤ 20000 := by
  unfold areaI
  obtain ⟨u, hu⟩ : ∃ u, b.hx - b.lx + 1 = u := ⟨_, rfl⟩
  obtain ⟨v, hv⟩ : ∃ v, b.hy - b.ly + 1 = v := ⟨_, rfl⟩
  rw [hu, hv]
  have u1 : -119 ≤ u := by omega
  have u2 : u ≤ 121 := by omega
  have v1 : -119 ≤ v := by omega
  have v2 : v ≤ 121 := by omega
  have a1 : 0 ≤ (u + 121) * (v + 121) := Int.mul_nonneg (by omega) (by omega)
  have a2 : 0 ≤ (121 - u) * (121 - v) := Int.mul_nonneg (by omega) (by omega)
  have a3 : 0 ≤ (u + 121) * (121 - v) := Int.mul_nonneg (by omega) (by omega)
  have a4 : 0 ≤ (121 - u) * (v + 121) := Int.mul_nonneg (by omega) (by omega)
  have e1 : (u + 121) * (v + 121) = u * v + 121 * u + 121 * v + 14641 := by rw [Int.add_mul, Int.mul_add, Int.mul_add]; omega
  have e2 : (121 - u) * (121 - v) = u * v - 121 * u - 121 * v + 14641 := by rw [Int.sub_mul, Int.mul_sub, Int.mul_sub]; omega
  have e3 : (u + 121) * (121 - v) = -(u * v) + 121 * u - 121 * v + 14641 := by rw [Int.add_mul, Int.mul_sub, Int.mul_sub]; omega
  have e4 : (121 - u) * (v + 121) = -(u * v) - 121 * u + 121 * v + 14641 := by rw [Int.sub_mul, Int.mul_add, Int.mul_add]; omega
  omega
end Go.Proofs.Ytkfjojpohcieeaa
