/- Walks: placeAt, cutCode. -/
import Derived.Test.YtbipnnjkddffbaaW12
namespace Go.Proofs.Ytbipnnjkddffbaa
open Go.RowKit
set_option linter.unusedSimpArgs false
set_option linter.unusedVariables false
attribute [local go_sem] BelowBy.cell BelowBy.cell_drew stillUpon givesUpon

set_option maxHeartbeats 1000000 in
theorem placeAt_any (A : Option Addr) (n c : Nat) (gs : List Gl) (ts : List Ti) (xs : List Pl) (x y : Int) (w : World) (h2 : RdSl 3 RPl w A n xs) (hV : Valid gs ts xs) :
    Calls Try.prog 137 #[.agg #[.slice A n c], .agg #[.int .i64 x, .int .i64 y]] w fun e w' => e = .returned (.int .i64 (placeI xs x y)) ∧ Below w.heap.size w w' := by
  go_enter Try.func137, Try.ntmps137
  go_wp2_with fail
  refine (BinarySearch_any _ _ _ gs ts xs _ _ _ (h2.below RPl.stable (by exact bel_)) hV).mono ?_
  rintro e w1 ⟨r, b, rfl, ⟨hp, _⟩, hb1⟩
  cases b
  · go_wp2
    go_ret
    exact ⟨ret_int hp, by exact bel_⟩
  · go_wp2
    go_ret
    exact ⟨ret_int hp, by exact bel_⟩
def cutCodeI (v : Bool) (n x y : Int) : Int := if v then (if inB x 0 (n - 1) && (inB y 0 (n - 1) && !(x == y)) then 0 else 2) else 1
end Go.Proofs.Ytbipnnjkddffbaa
