/-
  No cell of these rows narrows 'for every input' (looked for: loops, veiled, ifaces, maps, wideKeys, modest, calm, conditions, laid).
  DERIVED. THE GIVEN ROWS OF THIS SEAT. 4 by the template 'for every input the law returns true; each argument reads behind the call as it read before'; 0 by the template 'total and deterministic' (their statements: YtpnilnpgiampgaaTotals.lean).
  GIVEN WITH THE SEED: the statements are not yours to turn. If you find one false, say at which input.
  Laid BY PROGRAM, IN A SANDBOX (cutbox-rows.mjs): the forced cells as the released guide's own fill.sh prints them over the translation a8c52120080b807f… (all of the seat's roots in one cut). By AI agents, Wed Nov 11 2026. No macro, syntax, notation, axiom, sorry.
-/
import Derived.Test.YtpnilnpgiampgaaChecked
import GoSem.Claim
import GoSem.ClaimJoined
import GoSem.ClaimMapViews
import Derived.JoinedTies
import Derived.KernelRfl
namespace Go.Proofs.Ytpnilnpgiampgaa
/- THE CELL 'sum', in the pinned program and in every row, IS THE sha256 OF THE DUMP (.gsa) THAT YtpnilnpgiampgaaProg.lean LOADS. Nothing in Lean hashes anything: it is a label: what it is worth is what the hold of that sum in a sandbox is worth. -/
noncomputable def Try.pinned : Pinned := { name := "ytpnilnpgiampgaa", sum := "a8c52120080b807f455edc145926dba21582b481a1e329c6a3933b6cd1e85387", checked := Try.checked }
namespace Rows
def none {H : Type} : Left H := { results := [], args := [] }

/-- 'laws.FnExactPartsOf': WHATEVER THE INPUT: true; the input reads as it did. -/
def fnExactPartsOfSpec : ChangeSpec := { name := "fnExactPartsOf", fn := fun _ => fun
  | [d] => { results := [.lit (.bool true)], args := [d] }
  | _ => none }
def fnExactPartsOfRow : OpenClaim := { program := "ytpnilnpgiampgaa", sum := "a8c52120080b807f455edc145926dba21582b481a1e329c6a3933b6cd1e85387", func := "loop.example/g01081/laws.FnExactPartsOf", spec := "fnExactPartsOf", unfollowed := true, recurses := true, plainKeys := false, apart := false }
def FnExactPartsOfSaid : Prop := fnExactPartsOfRow.holds Try.pinned (OpenSpec.ofChange fnExactPartsOfSpec)

/-- ITS FALSE NEIGHBOUR: 'it returns false'. Refute it at one input. -/
def fnExactPartsOfWrong : ChangeSpec := { name := "fnExactPartsOf", fn := fun _ => fun
  | [d] => { results := [.lit (.bool false)], args := [d] }
  | _ => none }
def FnExactPartsOfWrongFalsely : Prop := fnExactPartsOfRow.holds Try.pinned (OpenSpec.ofChange fnExactPartsOfWrong)

/-- 'laws.FnExactHeightOf': WHATEVER THE INPUT: true; the input reads as it did. -/
def fnExactHeightOfSpec : ChangeSpec := { name := "fnExactHeightOf", fn := fun _ => fun
  | [d1, d2] => { results := [.lit (.bool true)], args := [d1, d2] }
  | _ => none }
def fnExactHeightOfRow : OpenClaim := { program := "ytpnilnpgiampgaa", sum := "a8c52120080b807f455edc145926dba21582b481a1e329c6a3933b6cd1e85387", func := "loop.example/g01081/laws.FnExactHeightOf", spec := "fnExactHeightOf", unfollowed := true, recurses := true, plainKeys := false, apart := false }
def FnExactHeightOfSaid : Prop := fnExactHeightOfRow.holds Try.pinned (OpenSpec.ofChange fnExactHeightOfSpec)

/-- ITS FALSE NEIGHBOUR: 'it returns false'. Refute it at one input. -/
def fnExactHeightOfWrong : ChangeSpec := { name := "fnExactHeightOf", fn := fun _ => fun
  | [d1, d2] => { results := [.lit (.bool false)], args := [d1, d2] }
  | _ => none }
def FnExactHeightOfWrongFalsely : Prop := fnExactHeightOfRow.holds Try.pinned (OpenSpec.ofChange fnExactHeightOfWrong)

/-- 'laws.FnExactCenterOf': WHATEVER THE INPUT: true; the input reads as it did. -/
def fnExactCenterOfSpec : ChangeSpec := { name := "fnExactCenterOf", fn := fun _ => fun
  | [d] => { results := [.lit (.bool true)], args := [d] }
  | _ => none }
def fnExactCenterOfRow : OpenClaim := { program := "ytpnilnpgiampgaa", sum := "a8c52120080b807f455edc145926dba21582b481a1e329c6a3933b6cd1e85387", func := "loop.example/g01081/laws.FnExactCenterOf", spec := "fnExactCenterOf", unfollowed := true, recurses := true, plainKeys := false, apart := false }
def FnExactCenterOfSaid : Prop := fnExactCenterOfRow.holds Try.pinned (OpenSpec.ofChange fnExactCenterOfSpec)

/-- ITS FALSE NEIGHBOUR: 'it returns false'. Refute it at one input. -/
def fnExactCenterOfWrong : ChangeSpec := { name := "fnExactCenterOf", fn := fun _ => fun
  | [d] => { results := [.lit (.bool false)], args := [d] }
  | _ => none }
def FnExactCenterOfWrongFalsely : Prop := fnExactCenterOfRow.holds Try.pinned (OpenSpec.ofChange fnExactCenterOfWrong)

/-- 'laws.FnExactParentsOf': WHATEVER THE INPUT: true; the input reads as it did. -/
def fnExactParentsOfSpec : ChangeSpec := { name := "fnExactParentsOf", fn := fun _ => fun
  | [d1, d2] => { results := [.lit (.bool true)], args := [d1, d2] }
  | _ => none }
def fnExactParentsOfRow : OpenClaim := { program := "ytpnilnpgiampgaa", sum := "a8c52120080b807f455edc145926dba21582b481a1e329c6a3933b6cd1e85387", func := "loop.example/g01081/laws.FnExactParentsOf", spec := "fnExactParentsOf", unfollowed := true, recurses := true, plainKeys := false, apart := false }
def FnExactParentsOfSaid : Prop := fnExactParentsOfRow.holds Try.pinned (OpenSpec.ofChange fnExactParentsOfSpec)

/-- ITS FALSE NEIGHBOUR: 'it returns false'. Refute it at one input. -/
def fnExactParentsOfWrong : ChangeSpec := { name := "fnExactParentsOf", fn := fun _ => fun
  | [d1, d2] => { results := [.lit (.bool false)], args := [d1, d2] }
  | _ => none }
def FnExactParentsOfWrongFalsely : Prop := fnExactParentsOfRow.holds Try.pinned (OpenSpec.ofChange fnExactParentsOfWrong)

/- THE SECOND FORM. 'bulk': how many values and letters a reading holds, each counted each time it is reached (what is shared counts as often as it is met; a slice's spare places count too). A statement '..UptoSaid' is the law's where the arguments, and the package variables that the reading takes, are together of bulk at most 1048576: NARROWER than '..Said'. Prove '..Said' where nothing that the law and all that it calls make is longer than what came in: it says more and counts as full. Else prove '..UptoSaid'. A law counts once. -/
mutual
def uptoBulk {H : Type} : DataW H → Nat
  | .lit (.string bytes) => bytes.length + 1
  | .lit _ => 1
  | .nil => 1
  | .ptr d => uptoBulk d + 1
  | .slice elems spare => uptoBulkAll elems + uptoBulkAll spare + 1
  | .agg parts => uptoBulkAll parts + 1
  | .iface _ d => uptoBulk d + 1
  | .map entries => uptoBulkEntries entries + 1
  | .held _ => 1
def uptoBulkAll {H : Type} : List (DataW H) → Nat
  | [] => 0
  | d :: r => uptoBulk d + uptoBulkAll r
def uptoBulkEntries {H : Type} : List (Lit × DataW H) → Nat
  | [] => 0
  | x :: r => uptoBulkEntry x + uptoBulkEntries r
def uptoBulkEntry {H : Type} : Lit × DataW H → Nat
  | (.string bytes, d) => bytes.length + uptoBulk d + 1
  | (_, d) => uptoBulk d + 1
 end
def uptoSmall : (H : Type) → List (DataW H) → Bool := fun _ ds => decide (uptoBulkAll ds ≤ 1048576)
def OpenSpec.upto (s : _root_.Go.ChangeSpec) : _root_.Go.OpenSpec := { _root_.Go.OpenSpec.ofChange s with cond := some uptoSmall }

/-- 'laws.FnExactPartsOf', WHERE WHAT IT READS IS OF BULK AT MOST 1048576: true; the input reads as it did. -/
def fnExactPartsOfUptoRow : OpenClaim := { program := "ytpnilnpgiampgaa", sum := "a8c52120080b807f455edc145926dba21582b481a1e329c6a3933b6cd1e85387", func := "loop.example/g01081/laws.FnExactPartsOf", spec := "fnExactPartsOf", unfollowed := true, recurses := true, plainKeys := false, apart := false, narrowed := true }
def FnExactPartsOfUptoSaid : Prop := fnExactPartsOfUptoRow.holds Try.pinned (OpenSpec.upto fnExactPartsOfSpec)

/-- 'laws.FnExactHeightOf', WHERE WHAT IT READS IS OF BULK AT MOST 1048576: true; the input reads as it did. -/
def fnExactHeightOfUptoRow : OpenClaim := { program := "ytpnilnpgiampgaa", sum := "a8c52120080b807f455edc145926dba21582b481a1e329c6a3933b6cd1e85387", func := "loop.example/g01081/laws.FnExactHeightOf", spec := "fnExactHeightOf", unfollowed := true, recurses := true, plainKeys := false, apart := false, narrowed := true }
def FnExactHeightOfUptoSaid : Prop := fnExactHeightOfUptoRow.holds Try.pinned (OpenSpec.upto fnExactHeightOfSpec)

/-- 'laws.FnExactCenterOf', WHERE WHAT IT READS IS OF BULK AT MOST 1048576: true; the input reads as it did. -/
def fnExactCenterOfUptoRow : OpenClaim := { program := "ytpnilnpgiampgaa", sum := "a8c52120080b807f455edc145926dba21582b481a1e329c6a3933b6cd1e85387", func := "loop.example/g01081/laws.FnExactCenterOf", spec := "fnExactCenterOf", unfollowed := true, recurses := true, plainKeys := false, apart := false, narrowed := true }
def FnExactCenterOfUptoSaid : Prop := fnExactCenterOfUptoRow.holds Try.pinned (OpenSpec.upto fnExactCenterOfSpec)

/-- 'laws.FnExactParentsOf', WHERE WHAT IT READS IS OF BULK AT MOST 1048576: true; the input reads as it did. -/
def fnExactParentsOfUptoRow : OpenClaim := { program := "ytpnilnpgiampgaa", sum := "a8c52120080b807f455edc145926dba21582b481a1e329c6a3933b6cd1e85387", func := "loop.example/g01081/laws.FnExactParentsOf", spec := "fnExactParentsOf", unfollowed := true, recurses := true, plainKeys := false, apart := false, narrowed := true }
def FnExactParentsOfUptoSaid : Prop := fnExactParentsOfUptoRow.holds Try.pinned (OpenSpec.upto fnExactParentsOfSpec)

end Rows
end Go.Proofs.Ytpnilnpgiampgaa
