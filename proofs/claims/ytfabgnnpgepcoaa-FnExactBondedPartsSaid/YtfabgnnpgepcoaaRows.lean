/-
  No cell of these rows narrows 'for every input' (looked for: loops, veiled, ifaces, maps, wideKeys, modest, calm, conditions, laid).
  DERIVED. THE GIVEN ROWS OF THIS SEAT. 9 by the template 'for every input the law returns true; each argument reads behind the call as it read before'; 0 by the template 'total and deterministic' (their statements: YtfabgnnpgepcoaaTotals.lean).
  GIVEN WITH THE SEED: the statements are not yours to turn. If you find one false, say at which input.
  Laid BY PROGRAM, IN A SANDBOX (cutbox-rows.mjs): the forced cells as the released guide's own fill.sh prints them over the translation 43363767494c51c1… (all of the seat's roots in one cut). By AI agents, Wed Nov 11 2026. No macro, syntax, notation, axiom, sorry.
-/
import Derived.Test.YtfabgnnpgepcoaaChecked
import GoSem.Claim
import GoSem.ClaimJoined
import GoSem.ClaimMapViews
import Derived.JoinedTies
import Derived.KernelRfl
namespace Go.Proofs.Ytfabgnnpgepcoaa
/- THE CELL 'sum', in the pinned program and in every row, IS THE sha256 OF THE DUMP (.gsa) THAT YtfabgnnpgepcoaaProg.lean LOADS. Nothing in Lean hashes anything: it is a label: what it is worth is what the hold of that sum in a sandbox is worth. -/
noncomputable def Try.pinned : Pinned := { name := "ytfabgnnpgepcoaa", sum := "43363767494c51c14eab8f9ac677e3fc1934ce0caf3d83fc100383064f8bcb64", checked := Try.checked }
namespace Rows
def none {H : Type} : Left H := { results := [], args := [] }

/-- 'laws.FnExactCheckFlow': WHATEVER THE INPUT: true; the input reads as it did. -/
def fnExactCheckFlowSpec : ChangeSpec := { name := "fnExactCheckFlow", fn := fun _ => fun
  | [d1, d2, d3, d4, d5] => { results := [.lit (.bool true)], args := [d1, d2, d3, d4, d5] }
  | _ => none }
def fnExactCheckFlowRow : OpenClaim := { program := "ytfabgnnpgepcoaa", sum := "43363767494c51c14eab8f9ac677e3fc1934ce0caf3d83fc100383064f8bcb64", func := "loop.example/g01081/laws.FnExactCheckFlow", spec := "fnExactCheckFlow", unfollowed := true, recurses := true, apart := false }
def FnExactCheckFlowSaid : Prop := fnExactCheckFlowRow.holds Try.pinned (OpenSpec.ofChange fnExactCheckFlowSpec)

/-- ITS FALSE NEIGHBOUR: 'it returns false'. Refute it at one input. -/
def fnExactCheckFlowWrong : ChangeSpec := { name := "fnExactCheckFlow", fn := fun _ => fun
  | [d1, d2, d3, d4, d5] => { results := [.lit (.bool false)], args := [d1, d2, d3, d4, d5] }
  | _ => none }
def FnExactCheckFlowWrongFalsely : Prop := fnExactCheckFlowRow.holds Try.pinned (OpenSpec.ofChange fnExactCheckFlowWrong)

/-- 'laws.FnExactJoinStrength': WHATEVER THE INPUT: true; the input reads as it did. -/
def fnExactJoinStrengthSpec : ChangeSpec := { name := "fnExactJoinStrength", fn := fun _ => fun
  | [d1, d2, d3, d4] => { results := [.lit (.bool true)], args := [d1, d2, d3, d4] }
  | _ => none }
def fnExactJoinStrengthRow : OpenClaim := { program := "ytfabgnnpgepcoaa", sum := "43363767494c51c14eab8f9ac677e3fc1934ce0caf3d83fc100383064f8bcb64", func := "loop.example/g01081/laws.FnExactJoinStrength", spec := "fnExactJoinStrength", unfollowed := true, recurses := true, apart := false }
def FnExactJoinStrengthSaid : Prop := fnExactJoinStrengthRow.holds Try.pinned (OpenSpec.ofChange fnExactJoinStrengthSpec)

/-- ITS FALSE NEIGHBOUR: 'it returns false'. Refute it at one input. -/
def fnExactJoinStrengthWrong : ChangeSpec := { name := "fnExactJoinStrength", fn := fun _ => fun
  | [d1, d2, d3, d4] => { results := [.lit (.bool false)], args := [d1, d2, d3, d4] }
  | _ => none }
def FnExactJoinStrengthWrongFalsely : Prop := fnExactJoinStrengthRow.holds Try.pinned (OpenSpec.ofChange fnExactJoinStrengthWrong)

/-- 'laws.FnExactBindingsOf': WHATEVER THE INPUT: true; the input reads as it did. -/
def fnExactBindingsOfSpec : ChangeSpec := { name := "fnExactBindingsOf", fn := fun _ => fun
  | [d1, d2] => { results := [.lit (.bool true)], args := [d1, d2] }
  | _ => none }
def fnExactBindingsOfRow : OpenClaim := { program := "ytfabgnnpgepcoaa", sum := "43363767494c51c14eab8f9ac677e3fc1934ce0caf3d83fc100383064f8bcb64", func := "loop.example/g01081/laws.FnExactBindingsOf", spec := "fnExactBindingsOf", unfollowed := true, recurses := true, apart := false }
def FnExactBindingsOfSaid : Prop := fnExactBindingsOfRow.holds Try.pinned (OpenSpec.ofChange fnExactBindingsOfSpec)

/-- ITS FALSE NEIGHBOUR: 'it returns false'. Refute it at one input. -/
def fnExactBindingsOfWrong : ChangeSpec := { name := "fnExactBindingsOf", fn := fun _ => fun
  | [d1, d2] => { results := [.lit (.bool false)], args := [d1, d2] }
  | _ => none }
def FnExactBindingsOfWrongFalsely : Prop := fnExactBindingsOfRow.holds Try.pinned (OpenSpec.ofChange fnExactBindingsOfWrong)

/-- 'laws.FnBonds': WHATEVER THE INPUT: true; the input reads as it did. -/
def fnBondsSpec : ChangeSpec := { name := "fnBonds", fn := fun _ => fun
  | [d1, d2] => { results := [.lit (.bool true)], args := [d1, d2] }
  | _ => none }
def fnBondsRow : OpenClaim := { program := "ytfabgnnpgepcoaa", sum := "43363767494c51c14eab8f9ac677e3fc1934ce0caf3d83fc100383064f8bcb64", func := "loop.example/g01081/laws.FnBonds", spec := "fnBonds", unfollowed := true, recurses := true, apart := false }
def FnBondsSaid : Prop := fnBondsRow.holds Try.pinned (OpenSpec.ofChange fnBondsSpec)

/-- ITS FALSE NEIGHBOUR: 'it returns false'. Refute it at one input. -/
def fnBondsWrong : ChangeSpec := { name := "fnBonds", fn := fun _ => fun
  | [d1, d2] => { results := [.lit (.bool false)], args := [d1, d2] }
  | _ => none }
def FnBondsWrongFalsely : Prop := fnBondsRow.holds Try.pinned (OpenSpec.ofChange fnBondsWrong)

/-- 'laws.FnExactMismatchesOf': WHATEVER THE INPUT: true; the input reads as it did. -/
def fnExactMismatchesOfSpec : ChangeSpec := { name := "fnExactMismatchesOf", fn := fun _ => fun
  | [d1, d2] => { results := [.lit (.bool true)], args := [d1, d2] }
  | _ => none }
def fnExactMismatchesOfRow : OpenClaim := { program := "ytfabgnnpgepcoaa", sum := "43363767494c51c14eab8f9ac677e3fc1934ce0caf3d83fc100383064f8bcb64", func := "loop.example/g01081/laws.FnExactMismatchesOf", spec := "fnExactMismatchesOf", unfollowed := true, recurses := true, apart := false }
def FnExactMismatchesOfSaid : Prop := fnExactMismatchesOfRow.holds Try.pinned (OpenSpec.ofChange fnExactMismatchesOfSpec)

/-- ITS FALSE NEIGHBOUR: 'it returns false'. Refute it at one input. -/
def fnExactMismatchesOfWrong : ChangeSpec := { name := "fnExactMismatchesOf", fn := fun _ => fun
  | [d1, d2] => { results := [.lit (.bool false)], args := [d1, d2] }
  | _ => none }
def FnExactMismatchesOfWrongFalsely : Prop := fnExactMismatchesOfRow.holds Try.pinned (OpenSpec.ofChange fnExactMismatchesOfWrong)

/-- 'laws.FnExactCutStrength': WHATEVER THE INPUT: true; the input reads as it did. -/
def fnExactCutStrengthSpec : ChangeSpec := { name := "fnExactCutStrength", fn := fun _ => fun
  | [d1, d2, d3] => { results := [.lit (.bool true)], args := [d1, d2, d3] }
  | _ => none }
def fnExactCutStrengthRow : OpenClaim := { program := "ytfabgnnpgepcoaa", sum := "43363767494c51c14eab8f9ac677e3fc1934ce0caf3d83fc100383064f8bcb64", func := "loop.example/g01081/laws.FnExactCutStrength", spec := "fnExactCutStrength", unfollowed := true, recurses := true, apart := false }
def FnExactCutStrengthSaid : Prop := fnExactCutStrengthRow.holds Try.pinned (OpenSpec.ofChange fnExactCutStrengthSpec)

/-- ITS FALSE NEIGHBOUR: 'it returns false'. Refute it at one input. -/
def fnExactCutStrengthWrong : ChangeSpec := { name := "fnExactCutStrength", fn := fun _ => fun
  | [d1, d2, d3] => { results := [.lit (.bool false)], args := [d1, d2, d3] }
  | _ => none }
def FnExactCutStrengthWrongFalsely : Prop := fnExactCutStrengthRow.holds Try.pinned (OpenSpec.ofChange fnExactCutStrengthWrong)

/-- 'laws.FnExactMeanBinding': WHATEVER THE INPUT: true; the input reads as it did. -/
def fnExactMeanBindingSpec : ChangeSpec := { name := "fnExactMeanBinding", fn := fun _ => fun
  | [d1, d2] => { results := [.lit (.bool true)], args := [d1, d2] }
  | _ => none }
def fnExactMeanBindingRow : OpenClaim := { program := "ytfabgnnpgepcoaa", sum := "43363767494c51c14eab8f9ac677e3fc1934ce0caf3d83fc100383064f8bcb64", func := "loop.example/g01081/laws.FnExactMeanBinding", spec := "fnExactMeanBinding", unfollowed := true, recurses := true, apart := false }
def FnExactMeanBindingSaid : Prop := fnExactMeanBindingRow.holds Try.pinned (OpenSpec.ofChange fnExactMeanBindingSpec)

/-- ITS FALSE NEIGHBOUR: 'it returns false'. Refute it at one input. -/
def fnExactMeanBindingWrong : ChangeSpec := { name := "fnExactMeanBinding", fn := fun _ => fun
  | [d1, d2] => { results := [.lit (.bool false)], args := [d1, d2] }
  | _ => none }
def FnExactMeanBindingWrongFalsely : Prop := fnExactMeanBindingRow.holds Try.pinned (OpenSpec.ofChange fnExactMeanBindingWrong)

/-- 'laws.FnExactBondsOf': WHATEVER THE INPUT: true; the input reads as it did. -/
def fnExactBondsOfSpec : ChangeSpec := { name := "fnExactBondsOf", fn := fun _ => fun
  | [d1, d2] => { results := [.lit (.bool true)], args := [d1, d2] }
  | _ => none }
def fnExactBondsOfRow : OpenClaim := { program := "ytfabgnnpgepcoaa", sum := "43363767494c51c14eab8f9ac677e3fc1934ce0caf3d83fc100383064f8bcb64", func := "loop.example/g01081/laws.FnExactBondsOf", spec := "fnExactBondsOf", unfollowed := true, recurses := true, apart := false }
def FnExactBondsOfSaid : Prop := fnExactBondsOfRow.holds Try.pinned (OpenSpec.ofChange fnExactBondsOfSpec)

/-- ITS FALSE NEIGHBOUR: 'it returns false'. Refute it at one input. -/
def fnExactBondsOfWrong : ChangeSpec := { name := "fnExactBondsOf", fn := fun _ => fun
  | [d1, d2] => { results := [.lit (.bool false)], args := [d1, d2] }
  | _ => none }
def FnExactBondsOfWrongFalsely : Prop := fnExactBondsOfRow.holds Try.pinned (OpenSpec.ofChange fnExactBondsOfWrong)

/-- 'laws.FnExactBondedParts': WHATEVER THE INPUT: true; the input reads as it did. -/
def fnExactBondedPartsSpec : ChangeSpec := { name := "fnExactBondedParts", fn := fun _ => fun
  | [d1, d2] => { results := [.lit (.bool true)], args := [d1, d2] }
  | _ => none }
def fnExactBondedPartsRow : OpenClaim := { program := "ytfabgnnpgepcoaa", sum := "43363767494c51c14eab8f9ac677e3fc1934ce0caf3d83fc100383064f8bcb64", func := "loop.example/g01081/laws.FnExactBondedParts", spec := "fnExactBondedParts", unfollowed := true, recurses := true, apart := false }
def FnExactBondedPartsSaid : Prop := fnExactBondedPartsRow.holds Try.pinned (OpenSpec.ofChange fnExactBondedPartsSpec)

/-- ITS FALSE NEIGHBOUR: 'it returns false'. Refute it at one input. -/
def fnExactBondedPartsWrong : ChangeSpec := { name := "fnExactBondedParts", fn := fun _ => fun
  | [d1, d2] => { results := [.lit (.bool false)], args := [d1, d2] }
  | _ => none }
def FnExactBondedPartsWrongFalsely : Prop := fnExactBondedPartsRow.holds Try.pinned (OpenSpec.ofChange fnExactBondedPartsWrong)

/- THE SECOND FORM. 'bulk': how many values and letters a reading holds, each counted each time it is reached (what is shared counts as often as it is met; a slice's spare places count too). A statement '..UptoSaid' is the law's where the arguments, and the package variables that the reading takes, are together of bulk at most 1048576: NARROWER than '..Said'. Prove '..Said' where nothing that the law and all that it calls make is longer than what came in: it says more and counts as full. Else prove '..UptoSaid'. A law counts once. -/
mutual
def uptoBulk {H : Type} : DataW H → Nat
  | .lit (.string bytes) => bytes.length + 1
  | .lit _ => 1
  | .nil => 1
  | .ptr d => uptoBulk d + 1
  | .slice elems spare => uptoBulkAll elems + uptoBulkAll spare + 1
  | .agg parts => uptoBulkAll parts + 1
  | .iface _ d => uptoBulk d + 1
  | .map entries => uptoBulkEntries entries + 1
  | .held _ => 1
def uptoBulkAll {H : Type} : List (DataW H) → Nat
  | [] => 0
  | d :: r => uptoBulk d + uptoBulkAll r
def uptoBulkEntries {H : Type} : List (Lit × DataW H) → Nat
  | [] => 0
  | x :: r => uptoBulkEntry x + uptoBulkEntries r
def uptoBulkEntry {H : Type} : Lit × DataW H → Nat
  | (.string bytes, d) => bytes.length + uptoBulk d + 1
  | (_, d) => uptoBulk d + 1
 end
def uptoSmall : (H : Type) → List (DataW H) → Bool := fun _ ds => decide (uptoBulkAll ds ≤ 1048576)
def OpenSpec.upto (s : _root_.Go.ChangeSpec) : _root_.Go.OpenSpec := { _root_.Go.OpenSpec.ofChange s with cond := some uptoSmall }

/-- 'laws.FnExactCheckFlow', WHERE WHAT IT READS IS OF BULK AT MOST 1048576: true; the input reads as it did. -/
def fnExactCheckFlowUptoRow : OpenClaim := { program := "ytfabgnnpgepcoaa", sum := "43363767494c51c14eab8f9ac677e3fc1934ce0caf3d83fc100383064f8bcb64", func := "loop.example/g01081/laws.FnExactCheckFlow", spec := "fnExactCheckFlow", unfollowed := true, recurses := true, apart := false, narrowed := true }
def FnExactCheckFlowUptoSaid : Prop := fnExactCheckFlowUptoRow.holds Try.pinned (OpenSpec.upto fnExactCheckFlowSpec)

/-- 'laws.FnExactJoinStrength', WHERE WHAT IT READS IS OF BULK AT MOST 1048576: true; the input reads as it did. -/
def fnExactJoinStrengthUptoRow : OpenClaim := { program := "ytfabgnnpgepcoaa", sum := "43363767494c51c14eab8f9ac677e3fc1934ce0caf3d83fc100383064f8bcb64", func := "loop.example/g01081/laws.FnExactJoinStrength", spec := "fnExactJoinStrength", unfollowed := true, recurses := true, apart := false, narrowed := true }
def FnExactJoinStrengthUptoSaid : Prop := fnExactJoinStrengthUptoRow.holds Try.pinned (OpenSpec.upto fnExactJoinStrengthSpec)

/-- 'laws.FnExactBindingsOf', WHERE WHAT IT READS IS OF BULK AT MOST 1048576: true; the input reads as it did. -/
def fnExactBindingsOfUptoRow : OpenClaim := { program := "ytfabgnnpgepcoaa", sum := "43363767494c51c14eab8f9ac677e3fc1934ce0caf3d83fc100383064f8bcb64", func := "loop.example/g01081/laws.FnExactBindingsOf", spec := "fnExactBindingsOf", unfollowed := true, recurses := true, apart := false, narrowed := true }
def FnExactBindingsOfUptoSaid : Prop := fnExactBindingsOfUptoRow.holds Try.pinned (OpenSpec.upto fnExactBindingsOfSpec)

/-- 'laws.FnBonds', WHERE WHAT IT READS IS OF BULK AT MOST 1048576: true; the input reads as it did. -/
def fnBondsUptoRow : OpenClaim := { program := "ytfabgnnpgepcoaa", sum := "43363767494c51c14eab8f9ac677e3fc1934ce0caf3d83fc100383064f8bcb64", func := "loop.example/g01081/laws.FnBonds", spec := "fnBonds", unfollowed := true, recurses := true, apart := false, narrowed := true }
def FnBondsUptoSaid : Prop := fnBondsUptoRow.holds Try.pinned (OpenSpec.upto fnBondsSpec)

/-- 'laws.FnExactMismatchesOf', WHERE WHAT IT READS IS OF BULK AT MOST 1048576: true; the input reads as it did. -/
def fnExactMismatchesOfUptoRow : OpenClaim := { program := "ytfabgnnpgepcoaa", sum := "43363767494c51c14eab8f9ac677e3fc1934ce0caf3d83fc100383064f8bcb64", func := "loop.example/g01081/laws.FnExactMismatchesOf", spec := "fnExactMismatchesOf", unfollowed := true, recurses := true, apart := false, narrowed := true }
def FnExactMismatchesOfUptoSaid : Prop := fnExactMismatchesOfUptoRow.holds Try.pinned (OpenSpec.upto fnExactMismatchesOfSpec)

/-- 'laws.FnExactCutStrength', WHERE WHAT IT READS IS OF BULK AT MOST 1048576: true; the input reads as it did. -/
def fnExactCutStrengthUptoRow : OpenClaim := { program := "ytfabgnnpgepcoaa", sum := "43363767494c51c14eab8f9ac677e3fc1934ce0caf3d83fc100383064f8bcb64", func := "loop.example/g01081/laws.FnExactCutStrength", spec := "fnExactCutStrength", unfollowed := true, recurses := true, apart := false, narrowed := true }
def FnExactCutStrengthUptoSaid : Prop := fnExactCutStrengthUptoRow.holds Try.pinned (OpenSpec.upto fnExactCutStrengthSpec)

/-- 'laws.FnExactMeanBinding', WHERE WHAT IT READS IS OF BULK AT MOST 1048576: true; the input reads as it did. -/
def fnExactMeanBindingUptoRow : OpenClaim := { program := "ytfabgnnpgepcoaa", sum := "43363767494c51c14eab8f9ac677e3fc1934ce0caf3d83fc100383064f8bcb64", func := "loop.example/g01081/laws.FnExactMeanBinding", spec := "fnExactMeanBinding", unfollowed := true, recurses := true, apart := false, narrowed := true }
def FnExactMeanBindingUptoSaid : Prop := fnExactMeanBindingUptoRow.holds Try.pinned (OpenSpec.upto fnExactMeanBindingSpec)

/-- 'laws.FnExactBondsOf', WHERE WHAT IT READS IS OF BULK AT MOST 1048576: true; the input reads as it did. -/
def fnExactBondsOfUptoRow : OpenClaim := { program := "ytfabgnnpgepcoaa", sum := "43363767494c51c14eab8f9ac677e3fc1934ce0caf3d83fc100383064f8bcb64", func := "loop.example/g01081/laws.FnExactBondsOf", spec := "fnExactBondsOf", unfollowed := true, recurses := true, apart := false, narrowed := true }
def FnExactBondsOfUptoSaid : Prop := fnExactBondsOfUptoRow.holds Try.pinned (OpenSpec.upto fnExactBondsOfSpec)

/-- 'laws.FnExactBondedParts', WHERE WHAT IT READS IS OF BULK AT MOST 1048576: true; the input reads as it did. -/
def fnExactBondedPartsUptoRow : OpenClaim := { program := "ytfabgnnpgepcoaa", sum := "43363767494c51c14eab8f9ac677e3fc1934ce0caf3d83fc100383064f8bcb64", func := "loop.example/g01081/laws.FnExactBondedParts", spec := "fnExactBondedParts", unfollowed := true, recurses := true, apart := false, narrowed := true }
def FnExactBondedPartsUptoSaid : Prop := fnExactBondedPartsUptoRow.holds Try.pinned (OpenSpec.upto fnExactBondedPartsSpec)

end Rows
end Go.Proofs.Ytfabgnnpgepcoaa
