/-
  No cell of these rows narrows 'for every input' (looked for: loops, veiled, ifaces, maps, wideKeys, modest, calm, conditions, laid).
  DERIVED. THE GIVEN ROWS OF THIS SEAT. 3 by the template 'for every input the law returns true; each argument reads behind the call as it read before'; 0 by the template 'total and deterministic' (their statements: YtfabgnnpgepcoaaGreatTotals.lean).
  GIVEN WITH THE SEED: the statements are not yours to turn. If you find one false, say at which input.
  Laid BY PROGRAM, IN A SANDBOX (cutbox-rows.mjs): the forced cells as the released guide's own fill.sh prints them over the translation 4d5d6cbefa98de0a… (all of the seat's roots in one cut). By AI agents, Wed Nov 11 2026. No macro, syntax, notation, axiom, sorry.
-/
import Derived.Test.YtfabgnnpgepcoaaGreatChecked
import GoSem.Claim
import GoSem.ClaimJoined
import GoSem.ClaimMapViews
import Derived.JoinedTies
import Derived.KernelRfl
namespace Go.Proofs.YtfabgnnpgepcoaaGreat
/- THE CELL 'sum', in the pinned program and in every row, IS THE sha256 OF THE DUMP (.gsa) THAT YtfabgnnpgepcoaaGreatProg.lean LOADS. Nothing in Lean hashes anything: it is a label: what it is worth is what the hold of that sum in a sandbox is worth. -/
noncomputable def Tryz.pinned : Pinned := { name := "ytfabgnnpgepcoaagreat", sum := "4d5d6cbefa98de0a635db21ff09ae9e46ba9f89816e6f5da86adb3ed4b2ffc5f", checked := Tryz.checked }
namespace Rows
def none {H : Type} : Left H := { results := [], args := [] }

/-- 'laws.FnExactConnectivity': WHATEVER THE INPUT: true; the input reads as it did. -/
def fnExactConnectivitySpec : ChangeSpec := { name := "fnExactConnectivity", fn := fun _ => fun
  | [d1, d2, d3, d4] => { results := [.lit (.bool true)], args := [d1, d2, d3, d4] }
  | _ => none }
def fnExactConnectivityRow : OpenClaim := { program := "ytfabgnnpgepcoaagreat", sum := "4d5d6cbefa98de0a635db21ff09ae9e46ba9f89816e6f5da86adb3ed4b2ffc5f", func := "loop.example/g01081/laws.FnExactConnectivity", spec := "fnExactConnectivity", unfollowed := true, recurses := true, apart := false }
def FnExactConnectivitySaid : Prop := fnExactConnectivityRow.holds Tryz.pinned (OpenSpec.ofChange fnExactConnectivitySpec)

/-- ITS FALSE NEIGHBOUR: 'it returns false'. Refute it at one input. -/
def fnExactConnectivityWrong : ChangeSpec := { name := "fnExactConnectivity", fn := fun _ => fun
  | [d1, d2, d3, d4] => { results := [.lit (.bool false)], args := [d1, d2, d3, d4] }
  | _ => none }
def FnExactConnectivityWrongFalsely : Prop := fnExactConnectivityRow.holds Tryz.pinned (OpenSpec.ofChange fnExactConnectivityWrong)

/-- 'laws.FnExactFlowBetween': WHATEVER THE INPUT: true; the input reads as it did. -/
def fnExactFlowBetweenSpec : ChangeSpec := { name := "fnExactFlowBetween", fn := fun _ => fun
  | [d1, d2, d3, d4] => { results := [.lit (.bool true)], args := [d1, d2, d3, d4] }
  | _ => none }
def fnExactFlowBetweenRow : OpenClaim := { program := "ytfabgnnpgepcoaagreat", sum := "4d5d6cbefa98de0a635db21ff09ae9e46ba9f89816e6f5da86adb3ed4b2ffc5f", func := "loop.example/g01081/laws.FnExactFlowBetween", spec := "fnExactFlowBetween", unfollowed := true, recurses := true, apart := false }
def FnExactFlowBetweenSaid : Prop := fnExactFlowBetweenRow.holds Tryz.pinned (OpenSpec.ofChange fnExactFlowBetweenSpec)

/-- ITS FALSE NEIGHBOUR: 'it returns false'. Refute it at one input. -/
def fnExactFlowBetweenWrong : ChangeSpec := { name := "fnExactFlowBetween", fn := fun _ => fun
  | [d1, d2, d3, d4] => { results := [.lit (.bool false)], args := [d1, d2, d3, d4] }
  | _ => none }
def FnExactFlowBetweenWrongFalsely : Prop := fnExactFlowBetweenRow.holds Tryz.pinned (OpenSpec.ofChange fnExactFlowBetweenWrong)

/-- 'laws.FnExactSeparatingPart': WHATEVER THE INPUT: true; the input reads as it did. -/
def fnExactSeparatingPartSpec : ChangeSpec := { name := "fnExactSeparatingPart", fn := fun _ => fun
  | [d1, d2, d3, d4] => { results := [.lit (.bool true)], args := [d1, d2, d3, d4] }
  | _ => none }
def fnExactSeparatingPartRow : OpenClaim := { program := "ytfabgnnpgepcoaagreat", sum := "4d5d6cbefa98de0a635db21ff09ae9e46ba9f89816e6f5da86adb3ed4b2ffc5f", func := "loop.example/g01081/laws.FnExactSeparatingPart", spec := "fnExactSeparatingPart", unfollowed := true, recurses := true, apart := false }
def FnExactSeparatingPartSaid : Prop := fnExactSeparatingPartRow.holds Tryz.pinned (OpenSpec.ofChange fnExactSeparatingPartSpec)

/-- ITS FALSE NEIGHBOUR: 'it returns false'. Refute it at one input. -/
def fnExactSeparatingPartWrong : ChangeSpec := { name := "fnExactSeparatingPart", fn := fun _ => fun
  | [d1, d2, d3, d4] => { results := [.lit (.bool false)], args := [d1, d2, d3, d4] }
  | _ => none }
def FnExactSeparatingPartWrongFalsely : Prop := fnExactSeparatingPartRow.holds Tryz.pinned (OpenSpec.ofChange fnExactSeparatingPartWrong)

/- THE SECOND FORM. 'bulk': how many values and letters a reading holds, each counted each time it is reached (what is shared counts as often as it is met; a slice's spare places count too). A statement '..UptoSaid' is the law's where the arguments, and the package variables that the reading takes, are together of bulk at most 1048576: NARROWER than '..Said'. Prove '..Said' where nothing that the law and all that it calls make is longer than what came in: it says more and counts as full. Else prove '..UptoSaid'. A law counts once. -/
mutual
def uptoBulk {H : Type} : DataW H → Nat
  | .lit (.string bytes) => bytes.length + 1
  | .lit _ => 1
  | .nil => 1
  | .ptr d => uptoBulk d + 1
  | .slice elems spare => uptoBulkAll elems + uptoBulkAll spare + 1
  | .agg parts => uptoBulkAll parts + 1
  | .iface _ d => uptoBulk d + 1
  | .map entries => uptoBulkEntries entries + 1
  | .held _ => 1
def uptoBulkAll {H : Type} : List (DataW H) → Nat
  | [] => 0
  | d :: r => uptoBulk d + uptoBulkAll r
def uptoBulkEntries {H : Type} : List (Lit × DataW H) → Nat
  | [] => 0
  | x :: r => uptoBulkEntry x + uptoBulkEntries r
def uptoBulkEntry {H : Type} : Lit × DataW H → Nat
  | (.string bytes, d) => bytes.length + uptoBulk d + 1
  | (_, d) => uptoBulk d + 1
 end
def uptoSmall : (H : Type) → List (DataW H) → Bool := fun _ ds => decide (uptoBulkAll ds ≤ 1048576)
def OpenSpec.upto (s : _root_.Go.ChangeSpec) : _root_.Go.OpenSpec := { _root_.Go.OpenSpec.ofChange s with cond := some uptoSmall }

/-- 'laws.FnExactConnectivity', WHERE WHAT IT READS IS OF BULK AT MOST 1048576: true; the input reads as it did. -/
def fnExactConnectivityUptoRow : OpenClaim := { program := "ytfabgnnpgepcoaagreat", sum := "4d5d6cbefa98de0a635db21ff09ae9e46ba9f89816e6f5da86adb3ed4b2ffc5f", func := "loop.example/g01081/laws.FnExactConnectivity", spec := "fnExactConnectivity", unfollowed := true, recurses := true, apart := false, narrowed := true }
def FnExactConnectivityUptoSaid : Prop := fnExactConnectivityUptoRow.holds Tryz.pinned (OpenSpec.upto fnExactConnectivitySpec)

/-- 'laws.FnExactFlowBetween', WHERE WHAT IT READS IS OF BULK AT MOST 1048576: true; the input reads as it did. -/
def fnExactFlowBetweenUptoRow : OpenClaim := { program := "ytfabgnnpgepcoaagreat", sum := "4d5d6cbefa98de0a635db21ff09ae9e46ba9f89816e6f5da86adb3ed4b2ffc5f", func := "loop.example/g01081/laws.FnExactFlowBetween", spec := "fnExactFlowBetween", unfollowed := true, recurses := true, apart := false, narrowed := true }
def FnExactFlowBetweenUptoSaid : Prop := fnExactFlowBetweenUptoRow.holds Tryz.pinned (OpenSpec.upto fnExactFlowBetweenSpec)

/-- 'laws.FnExactSeparatingPart', WHERE WHAT IT READS IS OF BULK AT MOST 1048576: true; the input reads as it did. -/
def fnExactSeparatingPartUptoRow : OpenClaim := { program := "ytfabgnnpgepcoaagreat", sum := "4d5d6cbefa98de0a635db21ff09ae9e46ba9f89816e6f5da86adb3ed4b2ffc5f", func := "loop.example/g01081/laws.FnExactSeparatingPart", spec := "fnExactSeparatingPart", unfollowed := true, recurses := true, apart := false, narrowed := true }
def FnExactSeparatingPartUptoSaid : Prop := fnExactSeparatingPartUptoRow.holds Tryz.pinned (OpenSpec.upto fnExactSeparatingPartSpec)

end Rows
end Go.Proofs.YtfabgnnpgepcoaaGreat
