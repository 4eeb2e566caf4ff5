/-
  No cell of these rows narrows 'for every input' (looked for: loops, veiled, ifaces, maps, wideKeys, modest, calm, conditions, laid).
  DERIVED. THE GIVEN ROWS OF THIS SEAT. 7 by the template 'for every input the law returns true; each argument reads behind the call as it read before'; 0 by the template 'total and deterministic' (their statements: YtjacdgdojemnkaaGreatTotals.lean).
  GIVEN WITH THE SEED: the statements are not yours to turn. If you find one false, say at which input.
  Laid BY PROGRAM, IN A SANDBOX (cutbox-rows.mjs): the forced cells as the released guide's own fill.sh prints them over the translation 539fbb0437c7c2af… (all of the seat's roots in one cut). By AI agents, Wed Nov 11 2026. No macro, syntax, notation, axiom, sorry.
-/
import Derived.Test.YtjacdgdojemnkaaGreatChecked
import GoSem.Claim
import GoSem.ClaimJoined
import GoSem.ClaimMapViews
import Derived.JoinedTies
import Derived.KernelRfl
namespace Go.Proofs.YtjacdgdojemnkaaGreat
/- THE CELL 'sum', in the pinned program and in every row, IS THE sha256 OF THE DUMP (.gsa) THAT YtjacdgdojemnkaaGreatProg.lean LOADS. Nothing in Lean hashes anything: it is a label: what it is worth is what the hold of that sum in a sandbox is worth. -/
noncomputable def Tryz.pinned : Pinned := { name := "ytjacdgdojemnkaagreat", sum := "539fbb0437c7c2afe27a27e76c0d8b2871fbecd8c312149cf780346e920aeee8", checked := Tryz.checked }
namespace Rows
def none {H : Type} : Left H := { results := [], args := [] }

/-- 'laws.FnExactRemovePoints': WHATEVER THE INPUT: true; the input reads as it did. -/
def fnExactRemovePointsSpec : ChangeSpec := { name := "fnExactRemovePoints", fn := fun _ => fun
  | [d1, d2, d3] => { results := [.lit (.bool true)], args := [d1, d2, d3] }
  | _ => none }
def fnExactRemovePointsRow : OpenClaim := { program := "ytjacdgdojemnkaagreat", sum := "539fbb0437c7c2afe27a27e76c0d8b2871fbecd8c312149cf780346e920aeee8", func := "loop.example/g01081/laws.FnExactRemovePoints", spec := "fnExactRemovePoints", unfollowed := true, recurses := true, apart := false }
def FnExactRemovePointsSaid : Prop := fnExactRemovePointsRow.holds Tryz.pinned (OpenSpec.ofChange fnExactRemovePointsSpec)

/-- ITS FALSE NEIGHBOUR: 'it returns false'. Refute it at one input. -/
def fnExactRemovePointsWrong : ChangeSpec := { name := "fnExactRemovePoints", fn := fun _ => fun
  | [d1, d2, d3] => { results := [.lit (.bool false)], args := [d1, d2, d3] }
  | _ => none }
def FnExactRemovePointsWrongFalsely : Prop := fnExactRemovePointsRow.holds Tryz.pinned (OpenSpec.ofChange fnExactRemovePointsWrong)

/-- 'laws.FnExactDamageOf': WHATEVER THE INPUT: true; the input reads as it did. -/
def fnExactDamageOfSpec : ChangeSpec := { name := "fnExactDamageOf", fn := fun _ => fun
  | [d1, d2, d3] => { results := [.lit (.bool true)], args := [d1, d2, d3] }
  | _ => none }
def fnExactDamageOfRow : OpenClaim := { program := "ytjacdgdojemnkaagreat", sum := "539fbb0437c7c2afe27a27e76c0d8b2871fbecd8c312149cf780346e920aeee8", func := "loop.example/g01081/laws.FnExactDamageOf", spec := "fnExactDamageOf", unfollowed := true, recurses := true, apart := false }
def FnExactDamageOfSaid : Prop := fnExactDamageOfRow.holds Tryz.pinned (OpenSpec.ofChange fnExactDamageOfSpec)

/-- ITS FALSE NEIGHBOUR: 'it returns false'. Refute it at one input. -/
def fnExactDamageOfWrong : ChangeSpec := { name := "fnExactDamageOf", fn := fun _ => fun
  | [d1, d2, d3] => { results := [.lit (.bool false)], args := [d1, d2, d3] }
  | _ => none }
def FnExactDamageOfWrongFalsely : Prop := fnExactDamageOfRow.holds Tryz.pinned (OpenSpec.ofChange fnExactDamageOfWrong)

/-- 'laws.FnExactDecodePattern': WHATEVER THE INPUT: true; the input reads as it did. -/
def fnExactDecodePatternSpec : ChangeSpec := { name := "fnExactDecodePattern", fn := fun _ => fun
  | [d1, d2, d3, d4] => { results := [.lit (.bool true)], args := [d1, d2, d3, d4] }
  | _ => none }
def fnExactDecodePatternRow : OpenClaim := { program := "ytjacdgdojemnkaagreat", sum := "539fbb0437c7c2afe27a27e76c0d8b2871fbecd8c312149cf780346e920aeee8", func := "loop.example/g01081/laws.FnExactDecodePattern", spec := "fnExactDecodePattern", unfollowed := true, recurses := true, apart := false }
def FnExactDecodePatternSaid : Prop := fnExactDecodePatternRow.holds Tryz.pinned (OpenSpec.ofChange fnExactDecodePatternSpec)

/-- ITS FALSE NEIGHBOUR: 'it returns false'. Refute it at one input. -/
def fnExactDecodePatternWrong : ChangeSpec := { name := "fnExactDecodePattern", fn := fun _ => fun
  | [d1, d2, d3, d4] => { results := [.lit (.bool false)], args := [d1, d2, d3, d4] }
  | _ => none }
def FnExactDecodePatternWrongFalsely : Prop := fnExactDecodePatternRow.holds Tryz.pinned (OpenSpec.ofChange fnExactDecodePatternWrong)

/-- 'laws.FnExactProveLoose': WHATEVER THE INPUT: true; the input reads as it did. -/
def fnExactProveLooseSpec : ChangeSpec := { name := "fnExactProveLoose", fn := fun _ => fun
  | [d1, d2] => { results := [.lit (.bool true)], args := [d1, d2] }
  | _ => none }
def fnExactProveLooseRow : OpenClaim := { program := "ytjacdgdojemnkaagreat", sum := "539fbb0437c7c2afe27a27e76c0d8b2871fbecd8c312149cf780346e920aeee8", func := "loop.example/g01081/laws.FnExactProveLoose", spec := "fnExactProveLoose", unfollowed := true, recurses := true, apart := false }
def FnExactProveLooseSaid : Prop := fnExactProveLooseRow.holds Tryz.pinned (OpenSpec.ofChange fnExactProveLooseSpec)

/-- ITS FALSE NEIGHBOUR: 'it returns false'. Refute it at one input. -/
def fnExactProveLooseWrong : ChangeSpec := { name := "fnExactProveLoose", fn := fun _ => fun
  | [d1, d2] => { results := [.lit (.bool false)], args := [d1, d2] }
  | _ => none }
def FnExactProveLooseWrongFalsely : Prop := fnExactProveLooseRow.holds Tryz.pinned (OpenSpec.ofChange fnExactProveLooseWrong)

/-- 'laws.FnExactProveStable': WHATEVER THE INPUT: true; the input reads as it did. -/
def fnExactProveStableSpec : ChangeSpec := { name := "fnExactProveStable", fn := fun _ => fun
  | [d1, d2] => { results := [.lit (.bool true)], args := [d1, d2] }
  | _ => none }
def fnExactProveStableRow : OpenClaim := { program := "ytjacdgdojemnkaagreat", sum := "539fbb0437c7c2afe27a27e76c0d8b2871fbecd8c312149cf780346e920aeee8", func := "loop.example/g01081/laws.FnExactProveStable", spec := "fnExactProveStable", unfollowed := true, recurses := true, apart := false }
def FnExactProveStableSaid : Prop := fnExactProveStableRow.holds Tryz.pinned (OpenSpec.ofChange fnExactProveStableSpec)

/-- ITS FALSE NEIGHBOUR: 'it returns false'. Refute it at one input. -/
def fnExactProveStableWrong : ChangeSpec := { name := "fnExactProveStable", fn := fun _ => fun
  | [d1, d2] => { results := [.lit (.bool false)], args := [d1, d2] }
  | _ => none }
def FnExactProveStableWrongFalsely : Prop := fnExactProveStableRow.holds Tryz.pinned (OpenSpec.ofChange fnExactProveStableWrong)

/-- 'laws.FnExactMeasureOf': WHATEVER THE INPUT: true; the input reads as it did. -/
def fnExactMeasureOfSpec : ChangeSpec := { name := "fnExactMeasureOf", fn := fun _ => fun
  | [d1, d2] => { results := [.lit (.bool true)], args := [d1, d2] }
  | _ => none }
def fnExactMeasureOfRow : OpenClaim := { program := "ytjacdgdojemnkaagreat", sum := "539fbb0437c7c2afe27a27e76c0d8b2871fbecd8c312149cf780346e920aeee8", func := "loop.example/g01081/laws.FnExactMeasureOf", spec := "fnExactMeasureOf", unfollowed := true, recurses := true, apart := false }
def FnExactMeasureOfSaid : Prop := fnExactMeasureOfRow.holds Tryz.pinned (OpenSpec.ofChange fnExactMeasureOfSpec)

/-- ITS FALSE NEIGHBOUR: 'it returns false'. Refute it at one input. -/
def fnExactMeasureOfWrong : ChangeSpec := { name := "fnExactMeasureOf", fn := fun _ => fun
  | [d1, d2] => { results := [.lit (.bool false)], args := [d1, d2] }
  | _ => none }
def FnExactMeasureOfWrongFalsely : Prop := fnExactMeasureOfRow.holds Tryz.pinned (OpenSpec.ofChange fnExactMeasureOfWrong)

/-- 'laws.FnExactCombine': WHATEVER THE INPUT: true; the input reads as it did. -/
def fnExactCombineSpec : ChangeSpec := { name := "fnExactCombine", fn := fun _ => fun
  | [d1, d2, d3, d4, d5] => { results := [.lit (.bool true)], args := [d1, d2, d3, d4, d5] }
  | _ => none }
def fnExactCombineRow : OpenClaim := { program := "ytjacdgdojemnkaagreat", sum := "539fbb0437c7c2afe27a27e76c0d8b2871fbecd8c312149cf780346e920aeee8", func := "loop.example/g01081/laws.FnExactCombine", spec := "fnExactCombine", unfollowed := true, recurses := true, apart := false }
def FnExactCombineSaid : Prop := fnExactCombineRow.holds Tryz.pinned (OpenSpec.ofChange fnExactCombineSpec)

/-- ITS FALSE NEIGHBOUR: 'it returns false'. Refute it at one input. -/
def fnExactCombineWrong : ChangeSpec := { name := "fnExactCombine", fn := fun _ => fun
  | [d1, d2, d3, d4, d5] => { results := [.lit (.bool false)], args := [d1, d2, d3, d4, d5] }
  | _ => none }
def FnExactCombineWrongFalsely : Prop := fnExactCombineRow.holds Tryz.pinned (OpenSpec.ofChange fnExactCombineWrong)

/- THE SECOND FORM. 'bulk': how many values and letters a reading holds, each counted each time it is reached (what is shared counts as often as it is met; a slice's spare places count too). A statement '..UptoSaid' is the law's where the arguments, and the package variables that the reading takes, are together of bulk at most 1048576: NARROWER than '..Said'. Prove '..Said' where nothing that the law and all that it calls make is longer than what came in: it says more and counts as full. Else prove '..UptoSaid'. A law counts once. -/
mutual
def uptoBulk {H : Type} : DataW H → Nat
  | .lit (.string bytes) => bytes.length + 1
  | .lit _ => 1
  | .nil => 1
  | .ptr d => uptoBulk d + 1
  | .slice elems spare => uptoBulkAll elems + uptoBulkAll spare + 1
  | .agg parts => uptoBulkAll parts + 1
  | .iface _ d => uptoBulk d + 1
  | .map entries => uptoBulkEntries entries + 1
  | .held _ => 1
def uptoBulkAll {H : Type} : List (DataW H) → Nat
  | [] => 0
  | d :: r => uptoBulk d + uptoBulkAll r
def uptoBulkEntries {H : Type} : List (Lit × DataW H) → Nat
  | [] => 0
  | x :: r => uptoBulkEntry x + uptoBulkEntries r
def uptoBulkEntry {H : Type} : Lit × DataW H → Nat
  | (.string bytes, d) => bytes.length + uptoBulk d + 1
  | (_, d) => uptoBulk d + 1
 end
def uptoSmall : (H : Type) → List (DataW H) → Bool := fun _ ds => decide (uptoBulkAll ds ≤ 1048576)
def OpenSpec.upto (s : _root_.Go.ChangeSpec) : _root_.Go.OpenSpec := { _root_.Go.OpenSpec.ofChange s with cond := some uptoSmall }

/-- 'laws.FnExactRemovePoints', WHERE WHAT IT READS IS OF BULK AT MOST 1048576: true; the input reads as it did. -/
def fnExactRemovePointsUptoRow : OpenClaim := { program := "ytjacdgdojemnkaagreat", sum := "539fbb0437c7c2afe27a27e76c0d8b2871fbecd8c312149cf780346e920aeee8", func := "loop.example/g01081/laws.FnExactRemovePoints", spec := "fnExactRemovePoints", unfollowed := true, recurses := true, apart := false, narrowed := true }
def FnExactRemovePointsUptoSaid : Prop := fnExactRemovePointsUptoRow.holds Tryz.pinned (OpenSpec.upto fnExactRemovePointsSpec)

/-- 'laws.FnExactDamageOf', WHERE WHAT IT READS IS OF BULK AT MOST 1048576: true; the input reads as it did. -/
def fnExactDamageOfUptoRow : OpenClaim := { program := "ytjacdgdojemnkaagreat", sum := "539fbb0437c7c2afe27a27e76c0d8b2871fbecd8c312149cf780346e920aeee8", func := "loop.example/g01081/laws.FnExactDamageOf", spec := "fnExactDamageOf", unfollowed := true, recurses := true, apart := false, narrowed := true }
def FnExactDamageOfUptoSaid : Prop := fnExactDamageOfUptoRow.holds Tryz.pinned (OpenSpec.upto fnExactDamageOfSpec)

/-- 'laws.FnExactDecodePattern', WHERE WHAT IT READS IS OF BULK AT MOST 1048576: true; the input reads as it did. -/
def fnExactDecodePatternUptoRow : OpenClaim := { program := "ytjacdgdojemnkaagreat", sum := "539fbb0437c7c2afe27a27e76c0d8b2871fbecd8c312149cf780346e920aeee8", func := "loop.example/g01081/laws.FnExactDecodePattern", spec := "fnExactDecodePattern", unfollowed := true, recurses := true, apart := false, narrowed := true }
def FnExactDecodePatternUptoSaid : Prop := fnExactDecodePatternUptoRow.holds Tryz.pinned (OpenSpec.upto fnExactDecodePatternSpec)

/-- 'laws.FnExactProveLoose', WHERE WHAT IT READS IS OF BULK AT MOST 1048576: true; the input reads as it did. -/
def fnExactProveLooseUptoRow : OpenClaim := { program := "ytjacdgdojemnkaagreat", sum := "539fbb0437c7c2afe27a27e76c0d8b2871fbecd8c312149cf780346e920aeee8", func := "loop.example/g01081/laws.FnExactProveLoose", spec := "fnExactProveLoose", unfollowed := true, recurses := true, apart := false, narrowed := true }
def FnExactProveLooseUptoSaid : Prop := fnExactProveLooseUptoRow.holds Tryz.pinned (OpenSpec.upto fnExactProveLooseSpec)

/-- 'laws.FnExactProveStable', WHERE WHAT IT READS IS OF BULK AT MOST 1048576: true; the input reads as it did. -/
def fnExactProveStableUptoRow : OpenClaim := { program := "ytjacdgdojemnkaagreat", sum := "539fbb0437c7c2afe27a27e76c0d8b2871fbecd8c312149cf780346e920aeee8", func := "loop.example/g01081/laws.FnExactProveStable", spec := "fnExactProveStable", unfollowed := true, recurses := true, apart := false, narrowed := true }
def FnExactProveStableUptoSaid : Prop := fnExactProveStableUptoRow.holds Tryz.pinned (OpenSpec.upto fnExactProveStableSpec)

/-- 'laws.FnExactMeasureOf', WHERE WHAT IT READS IS OF BULK AT MOST 1048576: true; the input reads as it did. -/
def fnExactMeasureOfUptoRow : OpenClaim := { program := "ytjacdgdojemnkaagreat", sum := "539fbb0437c7c2afe27a27e76c0d8b2871fbecd8c312149cf780346e920aeee8", func := "loop.example/g01081/laws.FnExactMeasureOf", spec := "fnExactMeasureOf", unfollowed := true, recurses := true, apart := false, narrowed := true }
def FnExactMeasureOfUptoSaid : Prop := fnExactMeasureOfUptoRow.holds Tryz.pinned (OpenSpec.upto fnExactMeasureOfSpec)

/-- 'laws.FnExactCombine', WHERE WHAT IT READS IS OF BULK AT MOST 1048576: true; the input reads as it did. -/
def fnExactCombineUptoRow : OpenClaim := { program := "ytjacdgdojemnkaagreat", sum := "539fbb0437c7c2afe27a27e76c0d8b2871fbecd8c312149cf780346e920aeee8", func := "loop.example/g01081/laws.FnExactCombine", spec := "fnExactCombine", unfollowed := true, recurses := true, apart := false, narrowed := true }
def FnExactCombineUptoSaid : Prop := fnExactCombineUptoRow.holds Tryz.pinned (OpenSpec.upto fnExactCombineSpec)

end Rows
end Go.Proofs.YtjacdgdojemnkaaGreat
