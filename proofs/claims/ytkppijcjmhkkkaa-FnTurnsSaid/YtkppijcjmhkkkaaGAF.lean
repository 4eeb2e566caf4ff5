import Derived.Test.YtkppijcjmhkkkaaGAE
import Derived.RangeFuncNested
import Derived.RangeFuncBound
import Derived.RangeFuncCalls
import Derived.RangeFuncLeaves
import Derived.RangeFuncBox
import Derived.Shelf.Abstract
import Derived.Shelf.RegionOpen
import Derived.OwnWalkIn
import Derived.TacticsInMore
import Derived.LoopNIn
import Derived.LoopIn
set_option linter.unusedSimpArgs false
set_option linter.unusedVariables false
/- Walks: the program's places, steps and bonds' strengths. -/

namespace Go.Proofs.Ytkppijcjmhkkkaa
open Go.RowKit
attribute [local go_sem] BelowBy.cell BelowBy.cell_drew stillUpon givesUpon

theorem plus_any (a b c d : Int) (w : World) (h1 : -1000000 ≤ a ∧ a ≤ 1000000) (h2 : -1000000 ≤ b ∧ b ≤ 1000000) (h3 : -1000000 ≤ c ∧ c ≤ 1000000) (h4 : -1000000 ≤ d ∧ d ≤ 1000000) :
    Calls Try.prog 52 #[.agg #[.int .i64 a, .int .i64 b], .agg #[.int .i64 c, .int .i64 d]] w fun e w' => e = .returned (.agg #[.int .i64 (a + c), .int .i64 (b + d)]) ∧ Below w.heap.size w w' := by
  go_enter Try.func52, Try.ntmps52
  go_wp2
  refine bodyPost_ret (v := .agg #[.int .i64 (a + c), .int .i64 (b + d)]) (by simp only [results, Try.results52]; go_simp) rfl ?_
  exact ⟨rfl, by exact bel_⟩
set_option maxRecDepth 100000 in
theorem step_any (x y : Int) (d : Nat) (w : World) (hd : d < 4) (hx : -1000 ≤ x ∧ x ≤ 1000) (hy : -1000 ≤ y ∧ y ≤ 1000) :
    Calls Try.prog 34 #[.agg #[.int .i64 x, .int .i64 y], .int .i64 d] w fun e w' => e = .returned (.agg #[.int .i64 (stepX x d), .int .i64 (stepY y d)]) ∧ Below w.heap.size w w' := by
  have : d = 0 ∨ d = 1 ∨ d = 2 ∨ d = 3 := by omega
  have hi0 : ∀ W, (Instr.index 68 (.agg #[.int .i64 0, .int .i64 1, .int .i64 1, .int .i64 0, .int .i64 0, .int .i64 (-1), .int .i64 (-1), .int .i64 0]) (.int .i64 0)).run Try.prog W = .ok (.agg #[.int .i64 0, .int .i64 1]) W := fun W => by kernel_rfl
  have hi1 : ∀ W, (Instr.index 68 (.agg #[.int .i64 0, .int .i64 1, .int .i64 1, .int .i64 0, .int .i64 0, .int .i64 (-1), .int .i64 (-1), .int .i64 0]) (.int .i64 1)).run Try.prog W = .ok (.agg #[.int .i64 1, .int .i64 0]) W := fun W => by kernel_rfl
  have hi2 : ∀ W, (Instr.index 68 (.agg #[.int .i64 0, .int .i64 1, .int .i64 1, .int .i64 0, .int .i64 0, .int .i64 (-1), .int .i64 (-1), .int .i64 0]) (.int .i64 2)).run Try.prog W = .ok (.agg #[.int .i64 0, .int .i64 (-1)]) W := fun W => by kernel_rfl
  have hi3 : ∀ W, (Instr.index 68 (.agg #[.int .i64 0, .int .i64 1, .int .i64 1, .int .i64 0, .int .i64 0, .int .i64 (-1), .int .i64 (-1), .int .i64 0]) (.int .i64 3)).run Try.prog W = .ok (.agg #[.int .i64 (-1), .int .i64 0]) W := fun W => by kernel_rfl
  rcases this with rfl | rfl | rfl | rfl
  · show Calls Try.prog 34 #[.agg #[.int .i64 x, .int .i64 y], .int .i64 0] w fun e w' => e = .returned (.agg #[.int .i64 (x), .int .i64 (y + 1)]) ∧ Below w.heap.size w w'
    go_enter Try.func34, Try.ntmps34
    go_wp2_with (go_at_call 52; refine (plus_any _ _ _ _ _ ⟨by omega, by omega⟩ ⟨by omega, by omega⟩ ⟨by omega, by omega⟩ ⟨by omega, by omega⟩).mono ?_; rintro e w1 ⟨rfl, hb1⟩; obtain ⟨chb1, fhb1, shb1, thb1⟩ := bcell hb1)
    refine bodyPost_ret (v := .agg #[.int .i64 (x), .int .i64 (y + 1)]) (by simp only [results, Try.results34]; go_simp) rfl ?_
    exact ⟨rfl, by exact bel_⟩
  · show Calls Try.prog 34 #[.agg #[.int .i64 x, .int .i64 y], .int .i64 1] w fun e w' => e = .returned (.agg #[.int .i64 (x + 1), .int .i64 (y)]) ∧ Below w.heap.size w w'
    go_enter Try.func34, Try.ntmps34
    go_wp2_with (go_at_call 52; refine (plus_any _ _ _ _ _ ⟨by omega, by omega⟩ ⟨by omega, by omega⟩ ⟨by omega, by omega⟩ ⟨by omega, by omega⟩).mono ?_; rintro e w1 ⟨rfl, hb1⟩; obtain ⟨chb1, fhb1, shb1, thb1⟩ := bcell hb1)
    refine bodyPost_ret (v := .agg #[.int .i64 (x + 1), .int .i64 (y)]) (by simp only [results, Try.results34]; go_simp) rfl ?_
    exact ⟨rfl, by exact bel_⟩
  · show Calls Try.prog 34 #[.agg #[.int .i64 x, .int .i64 y], .int .i64 2] w fun e w' => e = .returned (.agg #[.int .i64 (x), .int .i64 (y - 1)]) ∧ Below w.heap.size w w'
    go_enter Try.func34, Try.ntmps34
    go_wp2_with (go_at_call 52; refine (plus_any _ _ _ _ _ ⟨by omega, by omega⟩ ⟨by omega, by omega⟩ ⟨by omega, by omega⟩ ⟨by omega, by omega⟩).mono ?_; rintro e w1 ⟨rfl, hb1⟩; obtain ⟨chb1, fhb1, shb1, thb1⟩ := bcell hb1)
    refine bodyPost_ret (v := .agg #[.int .i64 (x), .int .i64 (y + -1)]) (by simp only [results, Try.results34]; go_simp) rfl ?_
    exact ⟨rfl, by exact bel_⟩
  · show Calls Try.prog 34 #[.agg #[.int .i64 x, .int .i64 y], .int .i64 3] w fun e w' => e = .returned (.agg #[.int .i64 (x - 1), .int .i64 (y)]) ∧ Below w.heap.size w w'
    go_enter Try.func34, Try.ntmps34
    go_wp2_with (go_at_call 52; refine (plus_any _ _ _ _ _ ⟨by omega, by omega⟩ ⟨by omega, by omega⟩ ⟨by omega, by omega⟩ ⟨by omega, by omega⟩).mono ?_; rintro e w1 ⟨rfl, hb1⟩; obtain ⟨chb1, fhb1, shb1, thb1⟩ := bcell hb1)
    refine bodyPost_ret (v := .agg #[.int .i64 (x + -1), .int .i64 (y)]) (by simp only [results, Try.results34]; go_simp) rfl ?_
    exact ⟨rfl, by exact bel_⟩
/-- what BinarySearchFunc says -/
def SearchRes (w : World) (xs : List Pl) (x y : Int) (e : Ending) (w' : World) : Prop :=
  ∃ (r : Int) (b : Bool), e = .returned (.tuple #[.int .i64 r, .bool b]) ∧ ((if b then r else -1) = placeI xs x y ∧ 0 ≤ r) ∧ Below w.heap.size w w'
end Go.Proofs.Ytkppijcjmhkkkaa
/- Walks: placeAt, cutCode. -/

namespace Go.Proofs.Ytkppijcjmhkkkaa
open Go.RowKit
attribute [local go_sem] BelowBy.cell BelowBy.cell_drew stillUpon givesUpon

def cutCodeI (v : Bool) (n x y : Int) : Int := if v then (if inB x 0 (n - 1) && (inB y 0 (n - 1) && !(x == y)) then 0 else 2) else 1
end Go.Proofs.Ytkppijcjmhkkkaa
/- The iterator over the neighbors. -/












namespace Go.Proofs.Ytkppijcjmhkkkaa
open Go.RowKit Go.Shelf
attribute [local go_sem] BelowBy.cell BelowBy.cell_drew stillUpon givesUpon Oper.semAt_some

/-- Blocks of cells of other types lie as they lay. -/
def KeepT (t1 t2 : TypeId) (W W' : World) : Prop := ∀ (b : Nat) (cs : Array Value) (t : TypeId), W.heap[b]? = some (Obj.cells cs t) → t ≠ t1 → t ≠ t2 → W'.heap[b]? = some (Obj.cells cs t)
theorem KeepT.refl (t1 t2 : TypeId) (W : World) : KeepT t1 t2 W W := fun _ _ _ h _ _ => h
theorem KeepT.trans {t1 t2 : TypeId} {A B C : World} (h : KeepT t1 t2 A B) (k : KeepT t1 t2 B C) : KeepT t1 t2 A C := fun b cs t hb h1 h2 => k b cs t (h b cs t hb h1 h2) h1 h2
theorem KeepT.of_below {t1 t2 : TypeId} {W W' : World} (h : Below W.heap.size W W') : KeepT t1 t2 W W' := fun b cs t hb _ _ => (h.block b (Array.getElem?_eq_some_iff.1 hb).1).trans hb
theorem grown_below {w w' : World} (h : Below w.heap.size w w') (row : Option Nat) : w.grownBy w' row := ⟨h.os, h.tape, h.output, h.size, fun k hk _ => h.block k hk⟩
/-- one neighbor: the place, its neighbor's place, the direction -/
abbrev NbT (xs : List Pl) : Type := { x : Nat × Nat × Nat // x.1 < xs.length ∧ x.2.1 < xs.length ∧ x.2.2 < 4 }
open Classical in
noncomputable def nb (xs : List Pl) (i d : Nat) : List (NbT xs) := match xs[i]? with
  | none => []
  | some e => if h : 0 ≤ placeI xs (stepX e.x d) (stepY e.y d) ∧ (i < xs.length ∧ (placeI xs (stepX e.x d) (stepY e.y d)).toNat < xs.length ∧ d < 4) then [⟨(i, (placeI xs (stepX e.x d) (stepY e.y d)).toNat, d), h.2⟩] else []
noncomputable def nbAll (xs : List Pl) : Nat → List (NbT xs)
  | 0 => []
  | i + 1 => nbAll xs i ++ (nb xs i 1 ++ nb xs i 0)
theorem placeI_is (xs : List Pl) (x y : Int) : IsPlace xs x y (placeI xs x y) := by
  apply Classical.epsilon_spec (p := IsPlace xs x y)
  by_cases h : ∃ (k : Nat) (e : Pl), xs[k]? = some e ∧ e.x = x ∧ e.y = y
  · obtain ⟨k, e, he, hx, hy⟩ := h
    exact ⟨k, Or.inr ⟨k, e, rfl, he, hx, hy⟩⟩
  · exact ⟨-1, Or.inl ⟨rfl, fun k e he hxy => h ⟨k, e, he, hxy.1, hxy.2⟩⟩⟩
theorem placeI_cases (xs : List Pl) (x y : Int) : placeI xs x y = -1 ∨ ∃ k : Nat, placeI xs x y = k ∧ k < xs.length := by
  rcases placeI_is xs x y with ⟨h, _⟩ | ⟨k, e, h, he, _⟩
  · exact Or.inl h
  · exact Or.inr ⟨k, h, lt_of_get he⟩
theorem nb_none {xs : List Pl} {i d : Nat} {e : Pl} (he : xs[i]? = some e) (h : placeI xs (stepX e.x d) (stepY e.y d) = -1) : nb xs i d = [] := by
  unfold nb; simp only [he]
  rw [dif_neg]
  rw [h]; rintro ⟨h, _⟩; omega
theorem nb_some {xs : List Pl} {i d k : Nat} {e : Pl} (he : xs[i]? = some e) (hd : d < 4) (h : placeI xs (stepX e.x d) (stepY e.y d) = k) (hk : k < xs.length) : nb xs i d = [⟨(i, k, d), lt_of_get he, hk, hd⟩] := by
  unfold nb; simp only [he]
  have : (placeI xs (stepX e.x d) (stepY e.y d)).toNat = k := by omega
  rw [dif_pos ⟨by omega, lt_of_get he, by omega, hd⟩]
  congr 1
  apply Subtype.ext
  simp only [this]
theorem nb_len (xs : List Pl) (i d : Nat) : (nb xs i d).length ≤ 1 := by
  unfold nb
  split
  · simp
  · split <;> simp
theorem nbAll_len (xs : List Pl) (i : Nat) : (nbAll xs i).length ≤ 2 * i := by
  induction i with
  | zero => simp [nbAll]
  | succ i ih =>
    have h1 := nb_len xs i 1
    have h0 := nb_len xs i 0
    simp only [nbAll, List.length_append]; omega
def dirOf (j : Nat) : Nat := if j = 0 then 1 else 0
/-- what has come when j directions of place i are over -/
noncomputable def nbUpto (xs : List Pl) (i j : Nat) : List (NbT xs) := nbAll xs i ++ ((if 1 ≤ j then nb xs i 1 else []) ++ (if 2 ≤ j then nb xs i 0 else []))
theorem nbUpto_zero (xs : List Pl) (i : Nat) : nbUpto xs i 0 = nbAll xs i := by simp [nbUpto]
theorem nbUpto_two (xs : List Pl) (i : Nat) : nbUpto xs i 2 = nbAll xs (i + 1) := by simp [nbUpto, nbAll]
theorem nbUpto_succ (xs : List Pl) (i j : Nat) (hj : j < 2) : nbUpto xs i (j + 1) = nbUpto xs i j ++ nb xs i (dirOf j) := by
  have : j = 0 ∨ j = 1 := by omega
  rcases this with rfl | rfl <;> simp [nbUpto, dirOf]
theorem nbUpto_len (xs : List Pl) (i j : Nat) : (nbUpto xs i j).length ≤ 2 * i + 2 := by
  have h := nbAll_len xs i
  have h1 := nb_len xs i 1
  have h0 := nb_len xs i 0
  unfold nbUpto
  simp only [List.length_append]
  split <;> split <;> simp <;> omega
def encN {xs : List Pl} (x : NbT xs) : Array Value := #[.agg #[.int .i64 (x.1.1 : Int), .int .i64 (x.1.2.1 : Int)], .int .i64 (x.1.2.2 : Int)]
theorem step_at {x y d x' y' : Int} {w : World} (k : Nat) (hd : d = k) (h4 : k < 4) (hx : -1000 ≤ x ∧ x ≤ 1000) (hy : -1000 ≤ y ∧ y ≤ 1000) (h1 : stepX x k = x') (h2 : stepY y k = y') :
    Calls Try.prog 34 #[.agg #[.int .i64 x, .int .i64 y], .int .i64 d] w fun e w' => e = .returned (.agg #[.int .i64 x', .int .i64 y']) ∧ Below w.heap.size w w' := by
  subst hd h1 h2; exact step_any _ _ _ _ h4 hx hy
end Go.Proofs.Ytkppijcjmhkkkaa
