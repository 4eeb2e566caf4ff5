/-
  No cell of these rows narrows 'for every input' (looked for: loops, veiled, ifaces, maps, wideKeys, modest, calm, conditions, laid).
  DERIVED. THE GIVEN ROWS OF THIS SEAT. 4 by the template 'for every input the law returns true; each argument reads behind the call as it read before'; 0 by the template 'total and deterministic' (their statements: YtglcpphfmmnmkaaGreatTotals.lean).
  GIVEN WITH THE SEED: the statements are not yours to turn. If you find one false, say at which input.
  Laid BY PROGRAM, IN A SANDBOX (cutbox-rows.mjs): the forced cells as the released guide's own fill.sh prints them over the translation ed504b8f44a5d762… (all of the seat's roots in one cut). By AI agents, Wed Nov 11 2026. No macro, syntax, notation, axiom, sorry.
-/
import Derived.Test.YtglcpphfmmnmkaaGreatChecked
import GoSem.Claim
import GoSem.ClaimJoined
import GoSem.ClaimMapViews
import Derived.JoinedTies
import Derived.KernelRfl
namespace Go.Proofs.YtglcpphfmmnmkaaGreat
/- THE CELL 'sum', in the pinned program and in every row, IS THE sha256 OF THE DUMP (.gsa) THAT YtglcpphfmmnmkaaGreatProg.lean LOADS. Nothing in Lean hashes anything: it is a label: what it is worth is what the hold of that sum in a sandbox is worth. -/
noncomputable def Tryz.pinned : Pinned := { name := "ytglcpphfmmnmkaagreat", sum := "ed504b8f44a5d762b810a2d2606400692adf8842b2080aab5a66f166dca1ed8f", checked := Tryz.checked }
namespace Rows
def none {H : Type} : Left H := { results := [], args := [] }

/-- 'laws.FnExactRemovePoints': WHATEVER THE INPUT: true; the input reads as it did. -/
def fnExactRemovePointsSpec : ChangeSpec := { name := "fnExactRemovePoints", fn := fun _ => fun
  | [d1, d2, d3] => { results := [.lit (.bool true)], args := [d1, d2, d3] }
  | _ => none }
def fnExactRemovePointsRow : OpenClaim := { program := "ytglcpphfmmnmkaagreat", sum := "ed504b8f44a5d762b810a2d2606400692adf8842b2080aab5a66f166dca1ed8f", func := "loop.example/g01081/laws.FnExactRemovePoints", spec := "fnExactRemovePoints", unfollowed := true, recurses := true, apart := false }
def FnExactRemovePointsSaid : Prop := fnExactRemovePointsRow.holds Tryz.pinned (OpenSpec.ofChange fnExactRemovePointsSpec)

/-- ITS FALSE NEIGHBOUR: 'it returns false'. Refute it at one input. -/
def fnExactRemovePointsWrong : ChangeSpec := { name := "fnExactRemovePoints", fn := fun _ => fun
  | [d1, d2, d3] => { results := [.lit (.bool false)], args := [d1, d2, d3] }
  | _ => none }
def FnExactRemovePointsWrongFalsely : Prop := fnExactRemovePointsRow.holds Tryz.pinned (OpenSpec.ofChange fnExactRemovePointsWrong)

/-- 'laws.FnExactDamageOf': WHATEVER THE INPUT: true; the input reads as it did. -/
def fnExactDamageOfSpec : ChangeSpec := { name := "fnExactDamageOf", fn := fun _ => fun
  | [d1, d2, d3] => { results := [.lit (.bool true)], args := [d1, d2, d3] }
  | _ => none }
def fnExactDamageOfRow : OpenClaim := { program := "ytglcpphfmmnmkaagreat", sum := "ed504b8f44a5d762b810a2d2606400692adf8842b2080aab5a66f166dca1ed8f", func := "loop.example/g01081/laws.FnExactDamageOf", spec := "fnExactDamageOf", unfollowed := true, recurses := true, apart := false }
def FnExactDamageOfSaid : Prop := fnExactDamageOfRow.holds Tryz.pinned (OpenSpec.ofChange fnExactDamageOfSpec)

/-- ITS FALSE NEIGHBOUR: 'it returns false'. Refute it at one input. -/
def fnExactDamageOfWrong : ChangeSpec := { name := "fnExactDamageOf", fn := fun _ => fun
  | [d1, d2, d3] => { results := [.lit (.bool false)], args := [d1, d2, d3] }
  | _ => none }
def FnExactDamageOfWrongFalsely : Prop := fnExactDamageOfRow.holds Tryz.pinned (OpenSpec.ofChange fnExactDamageOfWrong)

/-- 'laws.FnExactMeasureOf': WHATEVER THE INPUT: true; the input reads as it did. -/
def fnExactMeasureOfSpec : ChangeSpec := { name := "fnExactMeasureOf", fn := fun _ => fun
  | [d1, d2] => { results := [.lit (.bool true)], args := [d1, d2] }
  | _ => none }
def fnExactMeasureOfRow : OpenClaim := { program := "ytglcpphfmmnmkaagreat", sum := "ed504b8f44a5d762b810a2d2606400692adf8842b2080aab5a66f166dca1ed8f", func := "loop.example/g01081/laws.FnExactMeasureOf", spec := "fnExactMeasureOf", unfollowed := true, recurses := true, apart := false }
def FnExactMeasureOfSaid : Prop := fnExactMeasureOfRow.holds Tryz.pinned (OpenSpec.ofChange fnExactMeasureOfSpec)

/-- ITS FALSE NEIGHBOUR: 'it returns false'. Refute it at one input. -/
def fnExactMeasureOfWrong : ChangeSpec := { name := "fnExactMeasureOf", fn := fun _ => fun
  | [d1, d2] => { results := [.lit (.bool false)], args := [d1, d2] }
  | _ => none }
def FnExactMeasureOfWrongFalsely : Prop := fnExactMeasureOfRow.holds Tryz.pinned (OpenSpec.ofChange fnExactMeasureOfWrong)

/-- 'laws.FnExactHeadPath': WHATEVER THE INPUT: true; the input reads as it did. -/
def fnExactHeadPathSpec : ChangeSpec := { name := "fnExactHeadPath", fn := fun _ => fun
  | [d1, d2, d3] => { results := [.lit (.bool true)], args := [d1, d2, d3] }
  | _ => none }
def fnExactHeadPathRow : OpenClaim := { program := "ytglcpphfmmnmkaagreat", sum := "ed504b8f44a5d762b810a2d2606400692adf8842b2080aab5a66f166dca1ed8f", func := "loop.example/g01081/laws.FnExactHeadPath", spec := "fnExactHeadPath", inPlace := ["internal/bytealg.IndexByteString", "internal/bytealg.IndexString"], unfollowed := true, recurses := true, named := ["internal/bytealg.MaxLen"], apart := false }
def FnExactHeadPathSaid : Prop := fnExactHeadPathRow.holds Tryz.pinned (OpenSpec.ofChange fnExactHeadPathSpec)

/-- ITS FALSE NEIGHBOUR: 'it returns false'. Refute it at one input. -/
def fnExactHeadPathWrong : ChangeSpec := { name := "fnExactHeadPath", fn := fun _ => fun
  | [d1, d2, d3] => { results := [.lit (.bool false)], args := [d1, d2, d3] }
  | _ => none }
def FnExactHeadPathWrongFalsely : Prop := fnExactHeadPathRow.holds Tryz.pinned (OpenSpec.ofChange fnExactHeadPathWrong)

/- THE SECOND FORM. 'bulk': how many values and letters a reading holds, each counted each time it is reached (what is shared counts as often as it is met; a slice's spare places count too). A statement '..UptoSaid' is the law's where the arguments, and the package variables that the reading takes, are together of bulk at most 1048576: NARROWER than '..Said'. Prove '..Said' where nothing that the law and all that it calls make is longer than what came in: it says more and counts as full. Else prove '..UptoSaid'. A law counts once. -/
mutual
def uptoBulk {H : Type} : DataW H → Nat
  | .lit (.string bytes) => bytes.length + 1
  | .lit _ => 1
  | .nil => 1
  | .ptr d => uptoBulk d + 1
  | .slice elems spare => uptoBulkAll elems + uptoBulkAll spare + 1
  | .agg parts => uptoBulkAll parts + 1
  | .iface _ d => uptoBulk d + 1
  | .map entries => uptoBulkEntries entries + 1
  | .held _ => 1
def uptoBulkAll {H : Type} : List (DataW H) → Nat
  | [] => 0
  | d :: r => uptoBulk d + uptoBulkAll r
def uptoBulkEntries {H : Type} : List (Lit × DataW H) → Nat
  | [] => 0
  | x :: r => uptoBulkEntry x + uptoBulkEntries r
def uptoBulkEntry {H : Type} : Lit × DataW H → Nat
  | (.string bytes, d) => bytes.length + uptoBulk d + 1
  | (_, d) => uptoBulk d + 1
 end
def uptoSmall : (H : Type) → List (DataW H) → Bool := fun _ ds => decide (uptoBulkAll ds ≤ 1048576)
def OpenSpec.upto (s : _root_.Go.ChangeSpec) : _root_.Go.OpenSpec := { _root_.Go.OpenSpec.ofChange s with cond := some uptoSmall }

/-- 'laws.FnExactRemovePoints', WHERE WHAT IT READS IS OF BULK AT MOST 1048576: true; the input reads as it did. -/
def fnExactRemovePointsUptoRow : OpenClaim := { program := "ytglcpphfmmnmkaagreat", sum := "ed504b8f44a5d762b810a2d2606400692adf8842b2080aab5a66f166dca1ed8f", func := "loop.example/g01081/laws.FnExactRemovePoints", spec := "fnExactRemovePoints", unfollowed := true, recurses := true, apart := false, narrowed := true }
def FnExactRemovePointsUptoSaid : Prop := fnExactRemovePointsUptoRow.holds Tryz.pinned (OpenSpec.upto fnExactRemovePointsSpec)

/-- 'laws.FnExactDamageOf', WHERE WHAT IT READS IS OF BULK AT MOST 1048576: true; the input reads as it did. -/
def fnExactDamageOfUptoRow : OpenClaim := { program := "ytglcpphfmmnmkaagreat", sum := "ed504b8f44a5d762b810a2d2606400692adf8842b2080aab5a66f166dca1ed8f", func := "loop.example/g01081/laws.FnExactDamageOf", spec := "fnExactDamageOf", unfollowed := true, recurses := true, apart := false, narrowed := true }
def FnExactDamageOfUptoSaid : Prop := fnExactDamageOfUptoRow.holds Tryz.pinned (OpenSpec.upto fnExactDamageOfSpec)

/-- 'laws.FnExactMeasureOf', WHERE WHAT IT READS IS OF BULK AT MOST 1048576: true; the input reads as it did. -/
def fnExactMeasureOfUptoRow : OpenClaim := { program := "ytglcpphfmmnmkaagreat", sum := "ed504b8f44a5d762b810a2d2606400692adf8842b2080aab5a66f166dca1ed8f", func := "loop.example/g01081/laws.FnExactMeasureOf", spec := "fnExactMeasureOf", unfollowed := true, recurses := true, apart := false, narrowed := true }
def FnExactMeasureOfUptoSaid : Prop := fnExactMeasureOfUptoRow.holds Tryz.pinned (OpenSpec.upto fnExactMeasureOfSpec)

/-- 'laws.FnExactHeadPath', WHERE WHAT IT READS IS OF BULK AT MOST 1048576: true; the input reads as it did. -/
def fnExactHeadPathUptoRow : OpenClaim := { program := "ytglcpphfmmnmkaagreat", sum := "ed504b8f44a5d762b810a2d2606400692adf8842b2080aab5a66f166dca1ed8f", func := "loop.example/g01081/laws.FnExactHeadPath", spec := "fnExactHeadPath", inPlace := ["internal/bytealg.IndexByteString", "internal/bytealg.IndexString"], unfollowed := true, recurses := true, named := ["internal/bytealg.MaxLen"], apart := false, narrowed := true }
def FnExactHeadPathUptoSaid : Prop := fnExactHeadPathUptoRow.holds Tryz.pinned (OpenSpec.upto fnExactHeadPathSpec)

end Rows
end Go.Proofs.YtglcpphfmmnmkaaGreat
