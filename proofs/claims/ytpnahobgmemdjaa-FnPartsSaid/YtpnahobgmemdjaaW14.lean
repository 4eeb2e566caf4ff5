/- The iterator over the neighbors. -/
import Derived.Test.YtpnahobgmemdjaaW13
import Derived.RangeFuncNested
import Derived.RangeFuncBound
import Derived.RangeFuncCalls
import Derived.RangeFuncLeaves
import Derived.RangeFuncBox
import Derived.Shelf.Abstract
import Derived.Shelf.RegionOpen
import Derived.OwnWalkIn
import Derived.TacticsInMore
import Derived.LoopNIn
import Derived.LoopIn
namespace Go.Proofs.Ytpnahobgmemdjaa
open Go.RowKit Go.Shelf
set_option linter.unusedSimpArgs false
set_option linter.unusedVariables false
attribute [local go_sem] BelowBy.cell BelowBy.cell_drew stillUpon givesUpon Oper.semAt_some

/-- Blocks of cells of other types lie as they lay. -/
def KeepT (t1 t2 : TypeId) (W W' : World) : Prop := ∀ (b : Nat) (cs : Array Value) (t : TypeId), W.heap[b]? = some (Obj.cells cs t) → t ≠ t1 → t ≠ t2 → W'.heap[b]? = some (Obj.cells cs t)
theorem KeepT.refl (t1 t2 : TypeId) (W : World) : KeepT t1 t2 W W := fun _ _ _ h _ _ => h
theorem KeepT.trans {t1 t2 : TypeId} {A B C : World} (h : KeepT t1 t2 A B) (k : KeepT t1 t2 B C) : KeepT t1 t2 A C := fun b cs t hb h1 h2 => k b cs t (h b cs t hb h1 h2) h1 h2
theorem KeepT.of_below {t1 t2 : TypeId} {W W' : World} (h : Below W.heap.size W W') : KeepT t1 t2 W W' := fun b cs t hb _ _ => (h.block b (Array.getElem?_eq_some_iff.1 hb).1).trans hb
theorem grown_below {w w' : World} (h : Below w.heap.size w w') (row : Option Nat) : w.grownBy w' row := ⟨h.os, h.tape, h.output, h.size, fun k hk _ => h.block k hk⟩
/-- one neighbor: the place, its neighbor's place, the direction -/
abbrev NbT (xs : List Pl) : Type := { x : Nat × Nat × Nat // x.1 < xs.length ∧ x.2.1 < xs.length ∧ x.2.2 < 4 }
open Classical in
noncomputable def nb (xs : List Pl) (i d : Nat) : List (NbT xs) := match xs[i]? with
  | none => []
  | some e => if h : 0 ≤ placeI xs (stepX e.x d) (stepY e.y d) ∧ (i < xs.length ∧ (placeI xs (stepX e.x d) (stepY e.y d)).toNat < xs.length ∧ d < 4) then [⟨(i, (placeI xs (stepX e.x d) (stepY e.y d)).toNat, d), h.2⟩] else []
noncomputable def nbAll (xs : List Pl) : Nat → List (NbT xs)
  | 0 => []
  | i + 1 => nbAll xs i ++ (nb xs i 1 ++ nb xs i 0)
theorem placeI_is (xs : List Pl) (x y : Int) : IsPlace xs x y (placeI xs x y) := by
  apply Classical.epsilon_spec (p := IsPlace xs x y)
  by_cases h : ∃ (k : Nat) (e : Pl), xs[k]? = some e ∧ e.x = x ∧ e.y = y
  · obtain ⟨k, e, he, hx, hy⟩ := h
    exact ⟨k, Or.inr ⟨k, e, rfl, he, hx, hy⟩⟩
  · exact ⟨-1, Or.inl ⟨rfl, fun k e he hxy => h ⟨k, e, he, hxy.1, hxy.2⟩⟩⟩
theorem placeI_cases (xs : List Pl) (x y : Int) : placeI xs x y = -1 ∨ ∃ k : Nat, placeI xs x y = k ∧ k < xs.length := by
  rcases placeI_is xs x y with ⟨h, _⟩ | ⟨k, e, h, he, _⟩
  · exact Or.inl h
  · exact Or.inr ⟨k, h, lt_of_get he⟩
theorem nb_none {xs : List Pl} {i d : Nat} {e : Pl} (he : xs[i]? = some e) (h : placeI xs (stepX e.x d) (stepY e.y d) = -1) : nb xs i d = [] := by
  unfold nb; simp only [he]
  rw [dif_neg]
  rw [h]; rintro ⟨h, _⟩; omega
theorem nb_some {xs : List Pl} {i d k : Nat} {e : Pl} (he : xs[i]? = some e) (hd : d < 4) (h : placeI xs (stepX e.x d) (stepY e.y d) = k) (hk : k < xs.length) : nb xs i d = [⟨(i, k, d), lt_of_get he, hk, hd⟩] := by
  unfold nb; simp only [he]
  have : (placeI xs (stepX e.x d) (stepY e.y d)).toNat = k := by omega
  rw [dif_pos ⟨by omega, lt_of_get he, by omega, hd⟩]
  congr 1
  apply Subtype.ext
  simp only [this]
theorem nb_len (xs : List Pl) (i d : Nat) : (nb xs i d).length ≤ 1 := by
  unfold nb
  split
  · simp
  · split <;> simp
theorem nbAll_len (xs : List Pl) (i : Nat) : (nbAll xs i).length ≤ 2 * i := by
  induction i with
  | zero => simp [nbAll]
  | succ i ih =>
    have h1 := nb_len xs i 1
    have h0 := nb_len xs i 0
    simp only [nbAll, List.length_append]; omega
def dirOf (j : Nat) : Nat := if j = 0 then 1 else 0
/-- what has come when j directions of place i are over -/
noncomputable def nbUpto (xs : List Pl) (i j : Nat) : List (NbT xs) := nbAll xs i ++ ((if 1 ≤ j then nb xs i 1 else []) ++ (if 2 ≤ j then nb xs i 0 else []))
theorem nbUpto_zero (xs : List Pl) (i : Nat) : nbUpto xs i 0 = nbAll xs i := by simp [nbUpto]
theorem nbUpto_two (xs : List Pl) (i : Nat) : nbUpto xs i 2 = nbAll xs (i + 1) := by simp [nbUpto, nbAll]
theorem nbUpto_succ (xs : List Pl) (i j : Nat) (hj : j < 2) : nbUpto xs i (j + 1) = nbUpto xs i j ++ nb xs i (dirOf j) := by
  have : j = 0 ∨ j = 1 := by omega
  rcases this with rfl | rfl <;> simp [nbUpto, dirOf]
theorem nbUpto_len (xs : List Pl) (i j : Nat) : (nbUpto xs i j).length ≤ 2 * i + 2 := by
  have h := nbAll_len xs i
  have h1 := nb_len xs i 1
  have h0 := nb_len xs i 0
  unfold nbUpto
  simp only [List.length_append]
  split <;> split <;> simp <;> omega
def encN {xs : List Pl} (x : NbT xs) : Array Value := #[.agg #[.int .i64 (x.1.1 : Int), .int .i64 (x.1.2.1 : Int)], .int .i64 (x.1.2.2 : Int)]
theorem step_at {x y d x' y' : Int} {w : World} (k : Nat) (hd : d = k) (h4 : k < 4) (hx : -1000 ≤ x ∧ x ≤ 1000) (hy : -1000 ≤ y ∧ y ≤ 1000) (h1 : stepX x k = x') (h2 : stepY y k = y') :
    Calls Try.prog 69 #[.agg #[.int .i64 x, .int .i64 y], .int .i64 d] w fun e w' => e = .returned (.agg #[.int .i64 x', .int .i64 y']) ∧ Below w.heap.size w w' := by
  subst hd h1 h2; exact step_any _ _ _ _ h4 hx hy
end Go.Proofs.Ytpnahobgmemdjaa
