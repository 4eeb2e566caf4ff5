/- Walks: the harness' copies. -/
import Derived.Test.YtdcndhiidjgmaaaGreatDoorW1
import Derived.Test.YtdcndhiidjgmaaaGreatDoorBase2
namespace Go.Proofs.YtdcndhiidjgmaaaGreatDoor
open Go.RowKit
set_option linter.unusedSimpArgs false
set_option linter.unusedVariables false
attribute [local go_sem] BelowBy.cell BelowBy.cell_drew stillUpon givesUpon

theorem toPoint_any (x y : Int) (w : World) :
    Calls Tryz.prog 17 #[.agg #[.int .i64 x, .int .i64 y]] w fun e w' => e = .returned (.agg #[.int .i64 x, .int .i64 y]) ∧ Below w.heap.size w w' := by
  go_enter Tryz.func17, Tryz.ntmps17
  go_wp2
  refine bodyPost_ret (v := .agg #[.int .i64 x, .int .i64 y]) (by simp only [results, Tryz.results17]; go_simp) rfl ?_
  refine ⟨rfl, ?_⟩
  exact bel_

theorem infoI : (Tryz.prog.info? 2).map (fun i => (i.zero, i.size, i.bytes)) = some (some (.int .i64 0), 1, 8) := by kernel_rfl
theorem infoGl : (Tryz.prog.info? 69).map (fun i => (i.zero, i.size, i.bytes)) = some (some (.agg #[.string ByteArray.empty, .int .i64 0]), 2, 24) := by kernel_rfl
theorem infoTi : (Tryz.prog.info? 59).map (fun i => (i.zero, i.size, i.bytes)) = some (some (.agg #[.string ByteArray.empty, .slice none 0 0]), 2, 40) := by kernel_rfl
theorem infoPl : (Tryz.prog.info? 72).map (fun i => (i.zero, i.size, i.bytes)) = some (some (.agg #[.int .i64 0, .int .i64 0, .int .i64 0]), 3, 24) := by kernel_rfl

def ResAs (T : Nat) (w : World) (n : Nat) (xs : List Pl) (e : Ending) (w' : World) : Prop :=
  ∃ A, e = .returned (.agg #[.slice A n n]) ∧ OwSl T 3 RPl w' w.heap.size A n xs ∧ Below w.heap.size w w'
end Go.Proofs.YtdcndhiidjgmaaaGreatDoor
