/- Walks: who leads to a point; the greatest flow; codes. -/
import Derived.Test.YthieodccakphiaaGreatF6
namespace Go.Proofs.YthieodccakphiaaGreat
open Go.RowKit Go.Shelf
set_option linter.unusedSimpArgs false
set_option linter.unusedVariables false
attribute [local go_sem] BelowBy.cell BelowBy.cell_drew stillUpon givesUpon BelowBy.cell_drew2 BelowBy.cell_drew3

noncomputable def leadL (n : Nat) (E : Nat → Nat → Bool) (y m : Nat) : List Nat := (List.range m).filter fun u => (distTo n E y u).isSome
theorem leadL_yes {n : Nat} {E : Nat → Nat → Bool} {y m : Nat} (h : (distTo n E y m).isSome = true) : leadL n E y (m + 1) = leadL n E y m ++ [m] := by
  unfold leadL; rw [List.range_succ, List.filter_append]; simp [h]
theorem leadL_no {n : Nat} {E : Nat → Nat → Bool} {y m : Nat} (h : (distTo n E y m).isSome = false) : leadL n E y (m + 1) = leadL n E y m := by
  unfold leadL; rw [List.range_succ, List.filter_append]; simp [h]
theorem leadL_len (n : Nat) (E : Nat → Nat → Bool) (y m : Nat) : (leadL n E y m).length ≤ m := by
  have := List.length_filter_le (fun u => (distTo n E y u).isSome) (List.range m)
  simpa [leadL] using this
theorem wayTo_isSome (n : Nat) (E : Nat → Nat → Bool) (x y : Nat) : (wayTo n E x y).isSome = (distTo n E y x).isSome := by
  unfold wayTo
  cases distTo n E y x <;> rfl
def OwnI (w : World) (l : List Nat) (e : Ending) (w' : World) : Prop := ∃ v, e = .returned v ∧ w'.ownsRow w.heap.size 2 1 v l.length ((intsI l).map (Value.int .i64)) ∧ Below w.heap.size w w'
/-- the network with the greatest flow -/
def FlowingRes (w : World) (n : Nat) (bs : List Bd) (x y : Nat) (e : Ending) (w' : World) : Prop := ∃ p vR vF uR uF, e = .returned (.tuple #[.pointer (some ⟨p, 0, none⟩), .int .i64 (flowV n bs x y : Int)]) ∧
  Net w' w.heap.size p n (roomM bs bs.length) (flowM bs (iterF n bs x y (flowV n bs x y)) bs.length) vR vF uR uF ∧ Below w.heap.size w w'
theorem flowV_le {n : Nat} {bs : List Bd} (hb : BondsOk n bs) {x y : Nat} (hx : x < n) (hxy : x ≠ y) : flowV n bs x y ≤ 8 * bs.length := by
  obtain ⟨K, h1, h2⟩ := exists_least (exists_stop hb hx hxy)
  rw [flowV_eq h1 h2]
  have := iterF_left hb hx hxy (k := K) h2
  omega
def fullCode (v : Bool) (q : Nat) (x y : Int) : Int := if cutCodeI v q x y ≠ 0 then cutCodeI v q x y else if 64 < q then 4 else 0
end Go.Proofs.YthieodccakphiaaGreat
