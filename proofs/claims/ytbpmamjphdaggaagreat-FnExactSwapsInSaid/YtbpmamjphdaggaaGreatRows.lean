/-
  No cell of these rows narrows 'for every input' (looked for: loops, veiled, ifaces, maps, wideKeys, modest, calm, conditions, laid).
  DERIVED. THE GIVEN ROWS OF THIS SEAT. 8 by the template 'for every input the law returns true; each argument reads behind the call as it read before'; 0 by the template 'total and deterministic' (their statements: YtbpmamjphdaggaaGreatTotals.lean).
  GIVEN WITH THE SEED: the statements are not yours to turn. If you find one false, say at which input.
  Laid BY PROGRAM, IN A SANDBOX (cutbox-rows.mjs): the forced cells as the released guide's own fill.sh prints them over the translation 193e2bda0a0ba548… (all of the seat's roots in one cut). By AI agents, Wed Nov 11 2026. No macro, syntax, notation, axiom, sorry.
-/
import Derived.Test.YtbpmamjphdaggaaGreatChecked
import GoSem.Claim
import GoSem.ClaimJoined
import GoSem.ClaimMapViews
import Derived.JoinedTies
import Derived.KernelRfl
namespace Go.Proofs.YtbpmamjphdaggaaGreat
/- THE CELL 'sum', in the pinned program and in every row, IS THE sha256 OF THE DUMP (.gsa) THAT YtbpmamjphdaggaaGreatProg.lean LOADS. Nothing in Lean hashes anything: it is a label: what it is worth is what the hold of that sum in a sandbox is worth. -/
noncomputable def Tryz.pinned : Pinned := { name := "ytbpmamjphdaggaagreat", sum := "193e2bda0a0ba54820378e66da957d4dec90034beaa89aeb784216c3028cfb58", checked := Tryz.checked }
namespace Rows
def none {H : Type} : Left H := { results := [], args := [] }

/-- 'laws.FnExactFlowBetween': WHATEVER THE INPUT: true; the input reads as it did. -/
def fnExactFlowBetweenSpec : ChangeSpec := { name := "fnExactFlowBetween", fn := fun _ => fun
  | [d1, d2, d3, d4] => { results := [.lit (.bool true)], args := [d1, d2, d3, d4] }
  | _ => none }
def fnExactFlowBetweenRow : OpenClaim := { program := "ytbpmamjphdaggaagreat", sum := "193e2bda0a0ba54820378e66da957d4dec90034beaa89aeb784216c3028cfb58", func := "loop.example/g01081/laws.FnExactFlowBetween", spec := "fnExactFlowBetween", unfollowed := true, recurses := true, apart := false }
def FnExactFlowBetweenSaid : Prop := fnExactFlowBetweenRow.holds Tryz.pinned (OpenSpec.ofChange fnExactFlowBetweenSpec)

/-- ITS FALSE NEIGHBOUR: 'it returns false'. Refute it at one input. -/
def fnExactFlowBetweenWrong : ChangeSpec := { name := "fnExactFlowBetween", fn := fun _ => fun
  | [d1, d2, d3, d4] => { results := [.lit (.bool false)], args := [d1, d2, d3, d4] }
  | _ => none }
def FnExactFlowBetweenWrongFalsely : Prop := fnExactFlowBetweenRow.holds Tryz.pinned (OpenSpec.ofChange fnExactFlowBetweenWrong)

/-- 'laws.FnExactSeparatingPart': WHATEVER THE INPUT: true; the input reads as it did. -/
def fnExactSeparatingPartSpec : ChangeSpec := { name := "fnExactSeparatingPart", fn := fun _ => fun
  | [d1, d2, d3, d4] => { results := [.lit (.bool true)], args := [d1, d2, d3, d4] }
  | _ => none }
def fnExactSeparatingPartRow : OpenClaim := { program := "ytbpmamjphdaggaagreat", sum := "193e2bda0a0ba54820378e66da957d4dec90034beaa89aeb784216c3028cfb58", func := "loop.example/g01081/laws.FnExactSeparatingPart", spec := "fnExactSeparatingPart", unfollowed := true, recurses := true, apart := false }
def FnExactSeparatingPartSaid : Prop := fnExactSeparatingPartRow.holds Tryz.pinned (OpenSpec.ofChange fnExactSeparatingPartSpec)

/-- ITS FALSE NEIGHBOUR: 'it returns false'. Refute it at one input. -/
def fnExactSeparatingPartWrong : ChangeSpec := { name := "fnExactSeparatingPart", fn := fun _ => fun
  | [d1, d2, d3, d4] => { results := [.lit (.bool false)], args := [d1, d2, d3, d4] }
  | _ => none }
def FnExactSeparatingPartWrongFalsely : Prop := fnExactSeparatingPartRow.holds Tryz.pinned (OpenSpec.ofChange fnExactSeparatingPartWrong)

/-- 'laws.FnExactWeakestCut': WHATEVER THE INPUT: true; the input reads as it did. -/
def fnExactWeakestCutSpec : ChangeSpec := { name := "fnExactWeakestCut", fn := fun _ => fun
  | [d1, d2] => { results := [.lit (.bool true)], args := [d1, d2] }
  | _ => none }
def fnExactWeakestCutRow : OpenClaim := { program := "ytbpmamjphdaggaagreat", sum := "193e2bda0a0ba54820378e66da957d4dec90034beaa89aeb784216c3028cfb58", func := "loop.example/g01081/laws.FnExactWeakestCut", spec := "fnExactWeakestCut", unfollowed := true, recurses := true, apart := false }
def FnExactWeakestCutSaid : Prop := fnExactWeakestCutRow.holds Tryz.pinned (OpenSpec.ofChange fnExactWeakestCutSpec)

/-- ITS FALSE NEIGHBOUR: 'it returns false'. Refute it at one input. -/
def fnExactWeakestCutWrong : ChangeSpec := { name := "fnExactWeakestCut", fn := fun _ => fun
  | [d1, d2] => { results := [.lit (.bool false)], args := [d1, d2] }
  | _ => none }
def FnExactWeakestCutWrongFalsely : Prop := fnExactWeakestCutRow.holds Tryz.pinned (OpenSpec.ofChange fnExactWeakestCutWrong)

/-- 'laws.FnExactIsStable': WHATEVER THE INPUT: true; the input reads as it did. -/
def fnExactIsStableSpec : ChangeSpec := { name := "fnExactIsStable", fn := fun _ => fun
  | [d1, d2, d3] => { results := [.lit (.bool true)], args := [d1, d2, d3] }
  | _ => none }
def fnExactIsStableRow : OpenClaim := { program := "ytbpmamjphdaggaagreat", sum := "193e2bda0a0ba54820378e66da957d4dec90034beaa89aeb784216c3028cfb58", func := "loop.example/g01081/laws.FnExactIsStable", spec := "fnExactIsStable", unfollowed := true, recurses := true, apart := false }
def FnExactIsStableSaid : Prop := fnExactIsStableRow.holds Tryz.pinned (OpenSpec.ofChange fnExactIsStableSpec)

/-- ITS FALSE NEIGHBOUR: 'it returns false'. Refute it at one input. -/
def fnExactIsStableWrong : ChangeSpec := { name := "fnExactIsStable", fn := fun _ => fun
  | [d1, d2, d3] => { results := [.lit (.bool false)], args := [d1, d2, d3] }
  | _ => none }
def FnExactIsStableWrongFalsely : Prop := fnExactIsStableRow.holds Tryz.pinned (OpenSpec.ofChange fnExactIsStableWrong)

/-- 'laws.FnExactValidSystem': WHATEVER THE INPUT: true; the input reads as it did. -/
def fnExactValidSystemSpec : ChangeSpec := { name := "fnExactValidSystem", fn := fun _ => fun
  | [d] => { results := [.lit (.bool true)], args := [d] }
  | _ => none }
def fnExactValidSystemRow : OpenClaim := { program := "ytbpmamjphdaggaagreat", sum := "193e2bda0a0ba54820378e66da957d4dec90034beaa89aeb784216c3028cfb58", func := "loop.example/g01081/laws.FnExactValidSystem", spec := "fnExactValidSystem", unfollowed := true, recurses := true, apart := false }
def FnExactValidSystemSaid : Prop := fnExactValidSystemRow.holds Tryz.pinned (OpenSpec.ofChange fnExactValidSystemSpec)

/-- ITS FALSE NEIGHBOUR: 'it returns false'. Refute it at one input. -/
def fnExactValidSystemWrong : ChangeSpec := { name := "fnExactValidSystem", fn := fun _ => fun
  | [d] => { results := [.lit (.bool false)], args := [d] }
  | _ => none }
def FnExactValidSystemWrongFalsely : Prop := fnExactValidSystemRow.holds Tryz.pinned (OpenSpec.ofChange fnExactValidSystemWrong)

/-- 'laws.FnExactValidSimulation': WHATEVER THE INPUT: true; the input reads as it did. -/
def fnExactValidSimulationSpec : ChangeSpec := { name := "fnExactValidSimulation", fn := fun _ => fun
  | [d] => { results := [.lit (.bool true)], args := [d] }
  | _ => none }
def fnExactValidSimulationRow : OpenClaim := { program := "ytbpmamjphdaggaagreat", sum := "193e2bda0a0ba54820378e66da957d4dec90034beaa89aeb784216c3028cfb58", func := "loop.example/g01081/laws.FnExactValidSimulation", spec := "fnExactValidSimulation", unfollowed := true, recurses := true, apart := false }
def FnExactValidSimulationSaid : Prop := fnExactValidSimulationRow.holds Tryz.pinned (OpenSpec.ofChange fnExactValidSimulationSpec)

/-- ITS FALSE NEIGHBOUR: 'it returns false'. Refute it at one input. -/
def fnExactValidSimulationWrong : ChangeSpec := { name := "fnExactValidSimulation", fn := fun _ => fun
  | [d] => { results := [.lit (.bool false)], args := [d] }
  | _ => none }
def FnExactValidSimulationWrongFalsely : Prop := fnExactValidSimulationRow.holds Tryz.pinned (OpenSpec.ofChange fnExactValidSimulationWrong)

/-- 'laws.FnExactCarriesIn': WHATEVER THE INPUT: true; the input reads as it did. -/
def fnExactCarriesInSpec : ChangeSpec := { name := "fnExactCarriesIn", fn := fun _ => fun
  | [d1, d2, d3, d4] => { results := [.lit (.bool true)], args := [d1, d2, d3, d4] }
  | _ => none }
def fnExactCarriesInRow : OpenClaim := { program := "ytbpmamjphdaggaagreat", sum := "193e2bda0a0ba54820378e66da957d4dec90034beaa89aeb784216c3028cfb58", func := "loop.example/g01081/laws.FnExactCarriesIn", spec := "fnExactCarriesIn", unfollowed := true, recurses := true, apart := false }
def FnExactCarriesInSaid : Prop := fnExactCarriesInRow.holds Tryz.pinned (OpenSpec.ofChange fnExactCarriesInSpec)

/-- ITS FALSE NEIGHBOUR: 'it returns false'. Refute it at one input. -/
def fnExactCarriesInWrong : ChangeSpec := { name := "fnExactCarriesIn", fn := fun _ => fun
  | [d1, d2, d3, d4] => { results := [.lit (.bool false)], args := [d1, d2, d3, d4] }
  | _ => none }
def FnExactCarriesInWrongFalsely : Prop := fnExactCarriesInRow.holds Tryz.pinned (OpenSpec.ofChange fnExactCarriesInWrong)

/-- 'laws.FnExactSwapsIn': WHATEVER THE INPUT: true; the input reads as it did. -/
def fnExactSwapsInSpec : ChangeSpec := { name := "fnExactSwapsIn", fn := fun _ => fun
  | [d1, d2, d3, d4] => { results := [.lit (.bool true)], args := [d1, d2, d3, d4] }
  | _ => none }
def fnExactSwapsInRow : OpenClaim := { program := "ytbpmamjphdaggaagreat", sum := "193e2bda0a0ba54820378e66da957d4dec90034beaa89aeb784216c3028cfb58", func := "loop.example/g01081/laws.FnExactSwapsIn", spec := "fnExactSwapsIn", unfollowed := true, recurses := true, apart := false }
def FnExactSwapsInSaid : Prop := fnExactSwapsInRow.holds Tryz.pinned (OpenSpec.ofChange fnExactSwapsInSpec)

/-- ITS FALSE NEIGHBOUR: 'it returns false'. Refute it at one input. -/
def fnExactSwapsInWrong : ChangeSpec := { name := "fnExactSwapsIn", fn := fun _ => fun
  | [d1, d2, d3, d4] => { results := [.lit (.bool false)], args := [d1, d2, d3, d4] }
  | _ => none }
def FnExactSwapsInWrongFalsely : Prop := fnExactSwapsInRow.holds Tryz.pinned (OpenSpec.ofChange fnExactSwapsInWrong)

/- THE SECOND FORM. 'bulk': how many values and letters a reading holds, each counted each time it is reached (what is shared counts as often as it is met; a slice's spare places count too). A statement '..UptoSaid' is the law's where the arguments, and the package variables that the reading takes, are together of bulk at most 1048576: NARROWER than '..Said'. Prove '..Said' where nothing that the law and all that it calls make is longer than what came in: it says more and counts as full. Else prove '..UptoSaid'. A law counts once. -/
mutual
def uptoBulk {H : Type} : DataW H → Nat
  | .lit (.string bytes) => bytes.length + 1
  | .lit _ => 1
  | .nil => 1
  | .ptr d => uptoBulk d + 1
  | .slice elems spare => uptoBulkAll elems + uptoBulkAll spare + 1
  | .agg parts => uptoBulkAll parts + 1
  | .iface _ d => uptoBulk d + 1
  | .map entries => uptoBulkEntries entries + 1
  | .held _ => 1
def uptoBulkAll {H : Type} : List (DataW H) → Nat
  | [] => 0
  | d :: r => uptoBulk d + uptoBulkAll r
def uptoBulkEntries {H : Type} : List (Lit × DataW H) → Nat
  | [] => 0
  | x :: r => uptoBulkEntry x + uptoBulkEntries r
def uptoBulkEntry {H : Type} : Lit × DataW H → Nat
  | (.string bytes, d) => bytes.length + uptoBulk d + 1
  | (_, d) => uptoBulk d + 1
 end
def uptoSmall : (H : Type) → List (DataW H) → Bool := fun _ ds => decide (uptoBulkAll ds ≤ 1048576)
def OpenSpec.upto (s : _root_.Go.ChangeSpec) : _root_.Go.OpenSpec := { _root_.Go.OpenSpec.ofChange s with cond := some uptoSmall }

/-- 'laws.FnExactFlowBetween', WHERE WHAT IT READS IS OF BULK AT MOST 1048576: true; the input reads as it did. -/
def fnExactFlowBetweenUptoRow : OpenClaim := { program := "ytbpmamjphdaggaagreat", sum := "193e2bda0a0ba54820378e66da957d4dec90034beaa89aeb784216c3028cfb58", func := "loop.example/g01081/laws.FnExactFlowBetween", spec := "fnExactFlowBetween", unfollowed := true, recurses := true, apart := false, narrowed := true }
def FnExactFlowBetweenUptoSaid : Prop := fnExactFlowBetweenUptoRow.holds Tryz.pinned (OpenSpec.upto fnExactFlowBetweenSpec)

/-- 'laws.FnExactSeparatingPart', WHERE WHAT IT READS IS OF BULK AT MOST 1048576: true; the input reads as it did. -/
def fnExactSeparatingPartUptoRow : OpenClaim := { program := "ytbpmamjphdaggaagreat", sum := "193e2bda0a0ba54820378e66da957d4dec90034beaa89aeb784216c3028cfb58", func := "loop.example/g01081/laws.FnExactSeparatingPart", spec := "fnExactSeparatingPart", unfollowed := true, recurses := true, apart := false, narrowed := true }
def FnExactSeparatingPartUptoSaid : Prop := fnExactSeparatingPartUptoRow.holds Tryz.pinned (OpenSpec.upto fnExactSeparatingPartSpec)

/-- 'laws.FnExactWeakestCut', WHERE WHAT IT READS IS OF BULK AT MOST 1048576: true; the input reads as it did. -/
def fnExactWeakestCutUptoRow : OpenClaim := { program := "ytbpmamjphdaggaagreat", sum := "193e2bda0a0ba54820378e66da957d4dec90034beaa89aeb784216c3028cfb58", func := "loop.example/g01081/laws.FnExactWeakestCut", spec := "fnExactWeakestCut", unfollowed := true, recurses := true, apart := false, narrowed := true }
def FnExactWeakestCutUptoSaid : Prop := fnExactWeakestCutUptoRow.holds Tryz.pinned (OpenSpec.upto fnExactWeakestCutSpec)

/-- 'laws.FnExactIsStable', WHERE WHAT IT READS IS OF BULK AT MOST 1048576: true; the input reads as it did. -/
def fnExactIsStableUptoRow : OpenClaim := { program := "ytbpmamjphdaggaagreat", sum := "193e2bda0a0ba54820378e66da957d4dec90034beaa89aeb784216c3028cfb58", func := "loop.example/g01081/laws.FnExactIsStable", spec := "fnExactIsStable", unfollowed := true, recurses := true, apart := false, narrowed := true }
def FnExactIsStableUptoSaid : Prop := fnExactIsStableUptoRow.holds Tryz.pinned (OpenSpec.upto fnExactIsStableSpec)

/-- 'laws.FnExactValidSystem', WHERE WHAT IT READS IS OF BULK AT MOST 1048576: true; the input reads as it did. -/
def fnExactValidSystemUptoRow : OpenClaim := { program := "ytbpmamjphdaggaagreat", sum := "193e2bda0a0ba54820378e66da957d4dec90034beaa89aeb784216c3028cfb58", func := "loop.example/g01081/laws.FnExactValidSystem", spec := "fnExactValidSystem", unfollowed := true, recurses := true, apart := false, narrowed := true }
def FnExactValidSystemUptoSaid : Prop := fnExactValidSystemUptoRow.holds Tryz.pinned (OpenSpec.upto fnExactValidSystemSpec)

/-- 'laws.FnExactValidSimulation', WHERE WHAT IT READS IS OF BULK AT MOST 1048576: true; the input reads as it did. -/
def fnExactValidSimulationUptoRow : OpenClaim := { program := "ytbpmamjphdaggaagreat", sum := "193e2bda0a0ba54820378e66da957d4dec90034beaa89aeb784216c3028cfb58", func := "loop.example/g01081/laws.FnExactValidSimulation", spec := "fnExactValidSimulation", unfollowed := true, recurses := true, apart := false, narrowed := true }
def FnExactValidSimulationUptoSaid : Prop := fnExactValidSimulationUptoRow.holds Tryz.pinned (OpenSpec.upto fnExactValidSimulationSpec)

/-- 'laws.FnExactCarriesIn', WHERE WHAT IT READS IS OF BULK AT MOST 1048576: true; the input reads as it did. -/
def fnExactCarriesInUptoRow : OpenClaim := { program := "ytbpmamjphdaggaagreat", sum := "193e2bda0a0ba54820378e66da957d4dec90034beaa89aeb784216c3028cfb58", func := "loop.example/g01081/laws.FnExactCarriesIn", spec := "fnExactCarriesIn", unfollowed := true, recurses := true, apart := false, narrowed := true }
def FnExactCarriesInUptoSaid : Prop := fnExactCarriesInUptoRow.holds Tryz.pinned (OpenSpec.upto fnExactCarriesInSpec)

/-- 'laws.FnExactSwapsIn', WHERE WHAT IT READS IS OF BULK AT MOST 1048576: true; the input reads as it did. -/
def fnExactSwapsInUptoRow : OpenClaim := { program := "ytbpmamjphdaggaagreat", sum := "193e2bda0a0ba54820378e66da957d4dec90034beaa89aeb784216c3028cfb58", func := "loop.example/g01081/laws.FnExactSwapsIn", spec := "fnExactSwapsIn", unfollowed := true, recurses := true, apart := false, narrowed := true }
def FnExactSwapsInUptoSaid : Prop := fnExactSwapsInUptoRow.holds Tryz.pinned (OpenSpec.upto fnExactSwapsInSpec)

end Rows
end Go.Proofs.YtbpmamjphdaggaaGreat
