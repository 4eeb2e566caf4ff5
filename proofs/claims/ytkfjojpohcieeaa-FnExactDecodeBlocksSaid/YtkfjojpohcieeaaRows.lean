/-
  No cell of these rows narrows 'for every input' (looked for: loops, veiled, ifaces, maps, wideKeys, modest, calm, conditions, laid).
  DERIVED. THE GIVEN ROWS OF THIS SEAT. 3 by the template 'for every input the law returns true; each argument reads behind the call as it read before'; 0 by the template 'total and deterministic' (their statements: YtkfjojpohcieeaaTotals.lean).
  GIVEN WITH THE SEED: the statements are not yours to turn. If you find one false, say at which input.
  Laid BY PROGRAM, IN A SANDBOX (cutbox-rows.mjs): the forced cells as the released guide's own fill.sh prints them over the translation 6c100af579bcc173… (all of the seat's roots in one cut). By AI agents, Wed Nov 11 2026. No macro, syntax, notation, axiom, sorry.
-/
import Derived.Test.YtkfjojpohcieeaaChecked
import GoSem.Claim
import GoSem.ClaimJoined
import GoSem.ClaimMapViews
import Derived.JoinedTies
import Derived.KernelRfl
namespace Go.Proofs.Ytkfjojpohcieeaa
/- THE CELL 'sum', in the pinned program and in every row, IS THE sha256 OF THE DUMP (.gsa) THAT YtkfjojpohcieeaaProg.lean LOADS. Nothing in Lean hashes anything: it is a label: what it is worth is what the hold of that sum in a sandbox is worth. -/
noncomputable def Try.pinned : Pinned := { name := "ytkfjojpohcieeaa", sum := "6c100af579bcc1736c210cd67c637a23b55da0a49bcfecb2ad8a627b6be6d044", checked := Try.checked }
namespace Rows
def none {H : Type} : Left H := { results := [], args := [] }

/-- 'laws.FnExactHolesOf': WHATEVER THE INPUT: true; the input reads as it did. -/
def fnExactHolesOfSpec : ChangeSpec := { name := "fnExactHolesOf", fn := fun _ => fun
  | [d] => { results := [.lit (.bool true)], args := [d] }
  | _ => none }
def fnExactHolesOfRow : OpenClaim := { program := "ytkfjojpohcieeaa", sum := "6c100af579bcc1736c210cd67c637a23b55da0a49bcfecb2ad8a627b6be6d044", func := "loop.example/g01081/laws.FnExactHolesOf", spec := "fnExactHolesOf", unfollowed := true, recurses := true, plainKeys := false, apart := false }
def FnExactHolesOfSaid : Prop := fnExactHolesOfRow.holds Try.pinned (OpenSpec.ofChange fnExactHolesOfSpec)

/-- ITS FALSE NEIGHBOUR: 'it returns false'. Refute it at one input. -/
def fnExactHolesOfWrong : ChangeSpec := { name := "fnExactHolesOf", fn := fun _ => fun
  | [d] => { results := [.lit (.bool false)], args := [d] }
  | _ => none }
def FnExactHolesOfWrongFalsely : Prop := fnExactHolesOfRow.holds Try.pinned (OpenSpec.ofChange fnExactHolesOfWrong)

/-- 'laws.FnExactDecodeBlocks': WHATEVER THE INPUT: true; the input reads as it did. -/
def fnExactDecodeBlocksSpec : ChangeSpec := { name := "fnExactDecodeBlocks", fn := fun _ => fun
  | [d1, d2] => { results := [.lit (.bool true)], args := [d1, d2] }
  | _ => none }
def fnExactDecodeBlocksRow : OpenClaim := { program := "ytkfjojpohcieeaa", sum := "6c100af579bcc1736c210cd67c637a23b55da0a49bcfecb2ad8a627b6be6d044", func := "loop.example/g01081/laws.FnExactDecodeBlocks", spec := "fnExactDecodeBlocks", unfollowed := true, recurses := true, plainKeys := false, apart := false }
def FnExactDecodeBlocksSaid : Prop := fnExactDecodeBlocksRow.holds Try.pinned (OpenSpec.ofChange fnExactDecodeBlocksSpec)

/-- ITS FALSE NEIGHBOUR: 'it returns false'. Refute it at one input. -/
def fnExactDecodeBlocksWrong : ChangeSpec := { name := "fnExactDecodeBlocks", fn := fun _ => fun
  | [d1, d2] => { results := [.lit (.bool false)], args := [d1, d2] }
  | _ => none }
def FnExactDecodeBlocksWrongFalsely : Prop := fnExactDecodeBlocksRow.holds Try.pinned (OpenSpec.ofChange fnExactDecodeBlocksWrong)

/-- 'laws.FnExactPartialBlocks': WHATEVER THE INPUT: true; the input reads as it did. -/
def fnExactPartialBlocksSpec : ChangeSpec := { name := "fnExactPartialBlocks", fn := fun _ => fun
  | [d1, d2] => { results := [.lit (.bool true)], args := [d1, d2] }
  | _ => none }
def fnExactPartialBlocksRow : OpenClaim := { program := "ytkfjojpohcieeaa", sum := "6c100af579bcc1736c210cd67c637a23b55da0a49bcfecb2ad8a627b6be6d044", func := "loop.example/g01081/laws.FnExactPartialBlocks", spec := "fnExactPartialBlocks", unfollowed := true, recurses := true, plainKeys := false, apart := false }
def FnExactPartialBlocksSaid : Prop := fnExactPartialBlocksRow.holds Try.pinned (OpenSpec.ofChange fnExactPartialBlocksSpec)

/-- ITS FALSE NEIGHBOUR: 'it returns false'. Refute it at one input. -/
def fnExactPartialBlocksWrong : ChangeSpec := { name := "fnExactPartialBlocks", fn := fun _ => fun
  | [d1, d2] => { results := [.lit (.bool false)], args := [d1, d2] }
  | _ => none }
def FnExactPartialBlocksWrongFalsely : Prop := fnExactPartialBlocksRow.holds Try.pinned (OpenSpec.ofChange fnExactPartialBlocksWrong)

/- THE SECOND FORM. 'bulk': how many values and letters a reading holds, each counted each time it is reached (what is shared counts as often as it is met; a slice's spare places count too). A statement '..UptoSaid' is the law's where the arguments, and the package variables that the reading takes, are together of bulk at most 1048576: NARROWER than '..Said'. Prove '..Said' where nothing that the law and all that it calls make is longer than what came in: it says more and counts as full. Else prove '..UptoSaid'. A law counts once. -/
mutual
def uptoBulk {H : Type} : DataW H → Nat
  | .lit (.string bytes) => bytes.length + 1
  | .lit _ => 1
  | .nil => 1
  | .ptr d => uptoBulk d + 1
  | .slice elems spare => uptoBulkAll elems + uptoBulkAll spare + 1
  | .agg parts => uptoBulkAll parts + 1
  | .iface _ d => uptoBulk d + 1
  | .map entries => uptoBulkEntries entries + 1
  | .held _ => 1
def uptoBulkAll {H : Type} : List (DataW H) → Nat
  | [] => 0
  | d :: r => uptoBulk d + uptoBulkAll r
def uptoBulkEntries {H : Type} : List (Lit × DataW H) → Nat
  | [] => 0
  | x :: r => uptoBulkEntry x + uptoBulkEntries r
def uptoBulkEntry {H : Type} : Lit × DataW H → Nat
  | (.string bytes, d) => bytes.length + uptoBulk d + 1
  | (_, d) => uptoBulk d + 1
 end
def uptoSmall : (H : Type) → List (DataW H) → Bool := fun _ ds => decide (uptoBulkAll ds ≤ 1048576)
def OpenSpec.upto (s : _root_.Go.ChangeSpec) : _root_.Go.OpenSpec := { _root_.Go.OpenSpec.ofChange s with cond := some uptoSmall }

/-- 'laws.FnExactHolesOf', WHERE WHAT IT READS IS OF BULK AT MOST 1048576: true; the input reads as it did. -/
def fnExactHolesOfUptoRow : OpenClaim := { program := "ytkfjojpohcieeaa", sum := "6c100af579bcc1736c210cd67c637a23b55da0a49bcfecb2ad8a627b6be6d044", func := "loop.example/g01081/laws.FnExactHolesOf", spec := "fnExactHolesOf", unfollowed := true, recurses := true, plainKeys := false, apart := false, narrowed := true }
def FnExactHolesOfUptoSaid : Prop := fnExactHolesOfUptoRow.holds Try.pinned (OpenSpec.upto fnExactHolesOfSpec)

/-- 'laws.FnExactDecodeBlocks', WHERE WHAT IT READS IS OF BULK AT MOST 1048576: true; the input reads as it did. -/
def fnExactDecodeBlocksUptoRow : OpenClaim := { program := "ytkfjojpohcieeaa", sum := "6c100af579bcc1736c210cd67c637a23b55da0a49bcfecb2ad8a627b6be6d044", func := "loop.example/g01081/laws.FnExactDecodeBlocks", spec := "fnExactDecodeBlocks", unfollowed := true, recurses := true, plainKeys := false, apart := false, narrowed := true }
def FnExactDecodeBlocksUptoSaid : Prop := fnExactDecodeBlocksUptoRow.holds Try.pinned (OpenSpec.upto fnExactDecodeBlocksSpec)

/-- 'laws.FnExactPartialBlocks', WHERE WHAT IT READS IS OF BULK AT MOST 1048576: true; the input reads as it did. -/
def fnExactPartialBlocksUptoRow : OpenClaim := { program := "ytkfjojpohcieeaa", sum := "6c100af579bcc1736c210cd67c637a23b55da0a49bcfecb2ad8a627b6be6d044", func := "loop.example/g01081/laws.FnExactPartialBlocks", spec := "fnExactPartialBlocks", unfollowed := true, recurses := true, plainKeys := false, apart := false, narrowed := true }
def FnExactPartialBlocksUptoSaid : Prop := fnExactPartialBlocksUptoRow.holds Try.pinned (OpenSpec.upto fnExactPartialBlocksSpec)

end Rows
end Go.Proofs.Ytkfjojpohcieeaa
