/-
  No cell of these rows narrows 'for every input' (looked for: loops, veiled, ifaces, maps, wideKeys, modest, calm, conditions, laid).
  DERIVED. THE GIVEN ROWS OF THIS SEAT. 11 by the template 'for every input the law returns true; each argument reads behind the call as it read before'; 0 by the template 'total and deterministic' (their statements: YtcpbppblahpjbaaGreatTotals.lean).
  GIVEN WITH THE SEED: the statements are not yours to turn. If you find one false, say at which input.
  Laid BY PROGRAM, IN A SANDBOX (cutbox-rows.mjs): the forced cells as the released guide's own fill.sh prints them over the translation 67cd0922789e5c4d… (all of the seat's roots in one cut). By AI agents, Wed Nov 11 2026. No macro, syntax, notation, axiom, sorry.
-/
import Derived.Test.YtcpbppblahpjbaaGreatChecked
import GoSem.Claim
import GoSem.ClaimJoined
import GoSem.ClaimMapViews
import Derived.JoinedTies
import Derived.KernelRfl
namespace Go.Proofs.YtcpbppblahpjbaaGreat
/- THE CELL 'sum', in the pinned program and in every row, IS THE sha256 OF THE DUMP (.gsa) THAT YtcpbppblahpjbaaGreatProg.lean LOADS. Nothing in Lean hashes anything: it is a label: what it is worth is what the hold of that sum in a sandbox is worth. -/
noncomputable def Tryz.pinned : Pinned := { name := "ytcpbppblahpjbaagreat", sum := "67cd0922789e5c4d196fbe01beaf0f4399e67418419b2c3c4d0efef28d496bf4", checked := Tryz.checked }
namespace Rows
def none {H : Type} : Left H := { results := [], args := [] }

/-- 'laws.FnExactCountWounds': WHATEVER THE INPUT: true; the input reads as it did. -/
def fnExactCountWoundsSpec : ChangeSpec := { name := "fnExactCountWounds", fn := fun _ => fun
  | [d1, d2, d3] => { results := [.lit (.bool true)], args := [d1, d2, d3] }
  | _ => none }
def fnExactCountWoundsRow : OpenClaim := { program := "ytcpbppblahpjbaagreat", sum := "67cd0922789e5c4d196fbe01beaf0f4399e67418419b2c3c4d0efef28d496bf4", func := "loop.example/g01081/laws.FnExactCountWounds", spec := "fnExactCountWounds", unfollowed := true, recurses := true, plainKeys := false, apart := false }
def FnExactCountWoundsSaid : Prop := fnExactCountWoundsRow.holds Tryz.pinned (OpenSpec.ofChange fnExactCountWoundsSpec)

/-- ITS FALSE NEIGHBOUR: 'it returns false'. Refute it at one input. -/
def fnExactCountWoundsWrong : ChangeSpec := { name := "fnExactCountWounds", fn := fun _ => fun
  | [d1, d2, d3] => { results := [.lit (.bool false)], args := [d1, d2, d3] }
  | _ => none }
def FnExactCountWoundsWrongFalsely : Prop := fnExactCountWoundsRow.holds Tryz.pinned (OpenSpec.ofChange fnExactCountWoundsWrong)

/-- 'laws.FnExactSlackOf': WHATEVER THE INPUT: true; the input reads as it did. -/
def fnExactSlackOfSpec : ChangeSpec := { name := "fnExactSlackOf", fn := fun _ => fun
  | [d1, d2] => { results := [.lit (.bool true)], args := [d1, d2] }
  | _ => none }
def fnExactSlackOfRow : OpenClaim := { program := "ytcpbppblahpjbaagreat", sum := "67cd0922789e5c4d196fbe01beaf0f4399e67418419b2c3c4d0efef28d496bf4", func := "loop.example/g01081/laws.FnExactSlackOf", spec := "fnExactSlackOf", unfollowed := true, recurses := true, plainKeys := false, apart := false }
def FnExactSlackOfSaid : Prop := fnExactSlackOfRow.holds Tryz.pinned (OpenSpec.ofChange fnExactSlackOfSpec)

/-- ITS FALSE NEIGHBOUR: 'it returns false'. Refute it at one input. -/
def fnExactSlackOfWrong : ChangeSpec := { name := "fnExactSlackOf", fn := fun _ => fun
  | [d1, d2] => { results := [.lit (.bool false)], args := [d1, d2] }
  | _ => none }
def FnExactSlackOfWrongFalsely : Prop := fnExactSlackOfRow.holds Tryz.pinned (OpenSpec.ofChange fnExactSlackOfWrong)

/-- 'laws.FnExactLooseTiles': WHATEVER THE INPUT: true; the input reads as it did. -/
def fnExactLooseTilesSpec : ChangeSpec := { name := "fnExactLooseTiles", fn := fun _ => fun
  | [d1, d2] => { results := [.lit (.bool true)], args := [d1, d2] }
  | _ => none }
def fnExactLooseTilesRow : OpenClaim := { program := "ytcpbppblahpjbaagreat", sum := "67cd0922789e5c4d196fbe01beaf0f4399e67418419b2c3c4d0efef28d496bf4", func := "loop.example/g01081/laws.FnExactLooseTiles", spec := "fnExactLooseTiles", unfollowed := true, recurses := true, plainKeys := false, apart := false }
def FnExactLooseTilesSaid : Prop := fnExactLooseTilesRow.holds Tryz.pinned (OpenSpec.ofChange fnExactLooseTilesSpec)

/-- ITS FALSE NEIGHBOUR: 'it returns false'. Refute it at one input. -/
def fnExactLooseTilesWrong : ChangeSpec := { name := "fnExactLooseTiles", fn := fun _ => fun
  | [d1, d2] => { results := [.lit (.bool false)], args := [d1, d2] }
  | _ => none }
def FnExactLooseTilesWrongFalsely : Prop := fnExactLooseTilesRow.holds Tryz.pinned (OpenSpec.ofChange fnExactLooseTilesWrong)

/-- 'laws.FnExactRowTiles': WHATEVER THE INPUT: true; the input reads as it did. -/
def fnExactRowTilesSpec : ChangeSpec := { name := "fnExactRowTiles", fn := fun _ => fun
  | [d1, d2, d3] => { results := [.lit (.bool true)], args := [d1, d2, d3] }
  | _ => none }
def fnExactRowTilesRow : OpenClaim := { program := "ytcpbppblahpjbaagreat", sum := "67cd0922789e5c4d196fbe01beaf0f4399e67418419b2c3c4d0efef28d496bf4", func := "loop.example/g01081/laws.FnExactRowTiles", spec := "fnExactRowTiles", unfollowed := true, recurses := true, plainKeys := false, apart := false }
def FnExactRowTilesSaid : Prop := fnExactRowTilesRow.holds Tryz.pinned (OpenSpec.ofChange fnExactRowTilesSpec)

/-- ITS FALSE NEIGHBOUR: 'it returns false'. Refute it at one input. -/
def fnExactRowTilesWrong : ChangeSpec := { name := "fnExactRowTiles", fn := fun _ => fun
  | [d1, d2, d3] => { results := [.lit (.bool false)], args := [d1, d2, d3] }
  | _ => none }
def FnExactRowTilesWrongFalsely : Prop := fnExactRowTilesRow.holds Tryz.pinned (OpenSpec.ofChange fnExactRowTilesWrong)

/-- 'laws.FnExactValidDesk': WHATEVER THE INPUT: true; the input reads as it did. -/
def fnExactValidDeskSpec : ChangeSpec := { name := "fnExactValidDesk", fn := fun _ => fun
  | [d] => { results := [.lit (.bool true)], args := [d] }
  | _ => none }
def fnExactValidDeskRow : OpenClaim := { program := "ytcpbppblahpjbaagreat", sum := "67cd0922789e5c4d196fbe01beaf0f4399e67418419b2c3c4d0efef28d496bf4", func := "loop.example/g01081/laws.FnExactValidDesk", spec := "fnExactValidDesk", unfollowed := true, recurses := true, plainKeys := false, apart := false }
def FnExactValidDeskSaid : Prop := fnExactValidDeskRow.holds Tryz.pinned (OpenSpec.ofChange fnExactValidDeskSpec)

/-- ITS FALSE NEIGHBOUR: 'it returns false'. Refute it at one input. -/
def fnExactValidDeskWrong : ChangeSpec := { name := "fnExactValidDesk", fn := fun _ => fun
  | [d] => { results := [.lit (.bool false)], args := [d] }
  | _ => none }
def FnExactValidDeskWrongFalsely : Prop := fnExactValidDeskRow.holds Tryz.pinned (OpenSpec.ofChange fnExactValidDeskWrong)

/-- 'laws.FnExactIsTerminal': WHATEVER THE INPUT: true; the input reads as it did. -/
def fnExactIsTerminalSpec : ChangeSpec := { name := "fnExactIsTerminal", fn := fun _ => fun
  | [d1, d2] => { results := [.lit (.bool true)], args := [d1, d2] }
  | _ => none }
def fnExactIsTerminalRow : OpenClaim := { program := "ytcpbppblahpjbaagreat", sum := "67cd0922789e5c4d196fbe01beaf0f4399e67418419b2c3c4d0efef28d496bf4", func := "loop.example/g01081/laws.FnExactIsTerminal", spec := "fnExactIsTerminal", unfollowed := true, recurses := true, plainKeys := false, apart := false }
def FnExactIsTerminalSaid : Prop := fnExactIsTerminalRow.holds Tryz.pinned (OpenSpec.ofChange fnExactIsTerminalSpec)

/-- ITS FALSE NEIGHBOUR: 'it returns false'. Refute it at one input. -/
def fnExactIsTerminalWrong : ChangeSpec := { name := "fnExactIsTerminal", fn := fun _ => fun
  | [d1, d2] => { results := [.lit (.bool false)], args := [d1, d2] }
  | _ => none }
def FnExactIsTerminalWrongFalsely : Prop := fnExactIsTerminalRow.holds Tryz.pinned (OpenSpec.ofChange fnExactIsTerminalWrong)

/-- 'laws.FnExactIsSettled': WHATEVER THE INPUT: true; the input reads as it did. -/
def fnExactIsSettledSpec : ChangeSpec := { name := "fnExactIsSettled", fn := fun _ => fun
  | [d1, d2] => { results := [.lit (.bool true)], args := [d1, d2] }
  | _ => none }
def fnExactIsSettledRow : OpenClaim := { program := "ytcpbppblahpjbaagreat", sum := "67cd0922789e5c4d196fbe01beaf0f4399e67418419b2c3c4d0efef28d496bf4", func := "loop.example/g01081/laws.FnExactIsSettled", spec := "fnExactIsSettled", unfollowed := true, recurses := true, plainKeys := false, apart := false }
def FnExactIsSettledSaid : Prop := fnExactIsSettledRow.holds Tryz.pinned (OpenSpec.ofChange fnExactIsSettledSpec)

/-- ITS FALSE NEIGHBOUR: 'it returns false'. Refute it at one input. -/
def fnExactIsSettledWrong : ChangeSpec := { name := "fnExactIsSettled", fn := fun _ => fun
  | [d1, d2] => { results := [.lit (.bool false)], args := [d1, d2] }
  | _ => none }
def FnExactIsSettledWrongFalsely : Prop := fnExactIsSettledRow.holds Tryz.pinned (OpenSpec.ofChange fnExactIsSettledWrong)

/-- 'laws.FnExactAttach': WHATEVER THE INPUT: true; the input reads as it did. -/
def fnExactAttachSpec : ChangeSpec := { name := "fnExactAttach", fn := fun _ => fun
  | [d1, d2, d3] => { results := [.lit (.bool true)], args := [d1, d2, d3] }
  | _ => none }
def fnExactAttachRow : OpenClaim := { program := "ytcpbppblahpjbaagreat", sum := "67cd0922789e5c4d196fbe01beaf0f4399e67418419b2c3c4d0efef28d496bf4", func := "loop.example/g01081/laws.FnExactAttach", spec := "fnExactAttach", inPlace := ["slices.overlaps[loop.example/g01081/impl.Placed]"], unfollowed := true, recurses := true, plainKeys := false, apart := false }
def FnExactAttachSaid : Prop := fnExactAttachRow.holds Tryz.pinned (OpenSpec.ofChange fnExactAttachSpec)

/-- ITS FALSE NEIGHBOUR: 'it returns false'. Refute it at one input. -/
def fnExactAttachWrong : ChangeSpec := { name := "fnExactAttach", fn := fun _ => fun
  | [d1, d2, d3] => { results := [.lit (.bool false)], args := [d1, d2, d3] }
  | _ => none }
def FnExactAttachWrongFalsely : Prop := fnExactAttachRow.holds Tryz.pinned (OpenSpec.ofChange fnExactAttachWrong)

/-- 'laws.FnExactSeparatingPart': WHATEVER THE INPUT: true; the input reads as it did. -/
def fnExactSeparatingPartSpec : ChangeSpec := { name := "fnExactSeparatingPart", fn := fun _ => fun
  | [d1, d2, d3, d4] => { results := [.lit (.bool true)], args := [d1, d2, d3, d4] }
  | _ => none }
def fnExactSeparatingPartRow : OpenClaim := { program := "ytcpbppblahpjbaagreat", sum := "67cd0922789e5c4d196fbe01beaf0f4399e67418419b2c3c4d0efef28d496bf4", func := "loop.example/g01081/laws.FnExactSeparatingPart", spec := "fnExactSeparatingPart", unfollowed := true, recurses := true, plainKeys := false, apart := false }
def FnExactSeparatingPartSaid : Prop := fnExactSeparatingPartRow.holds Tryz.pinned (OpenSpec.ofChange fnExactSeparatingPartSpec)

/-- ITS FALSE NEIGHBOUR: 'it returns false'. Refute it at one input. -/
def fnExactSeparatingPartWrong : ChangeSpec := { name := "fnExactSeparatingPart", fn := fun _ => fun
  | [d1, d2, d3, d4] => { results := [.lit (.bool false)], args := [d1, d2, d3, d4] }
  | _ => none }
def FnExactSeparatingPartWrongFalsely : Prop := fnExactSeparatingPartRow.holds Tryz.pinned (OpenSpec.ofChange fnExactSeparatingPartWrong)

/-- 'laws.FnExactIsStable': WHATEVER THE INPUT: true; the input reads as it did. -/
def fnExactIsStableSpec : ChangeSpec := { name := "fnExactIsStable", fn := fun _ => fun
  | [d1, d2, d3] => { results := [.lit (.bool true)], args := [d1, d2, d3] }
  | _ => none }
def fnExactIsStableRow : OpenClaim := { program := "ytcpbppblahpjbaagreat", sum := "67cd0922789e5c4d196fbe01beaf0f4399e67418419b2c3c4d0efef28d496bf4", func := "loop.example/g01081/laws.FnExactIsStable", spec := "fnExactIsStable", unfollowed := true, recurses := true, plainKeys := false, apart := false }
def FnExactIsStableSaid : Prop := fnExactIsStableRow.holds Tryz.pinned (OpenSpec.ofChange fnExactIsStableSpec)

/-- ITS FALSE NEIGHBOUR: 'it returns false'. Refute it at one input. -/
def fnExactIsStableWrong : ChangeSpec := { name := "fnExactIsStable", fn := fun _ => fun
  | [d1, d2, d3] => { results := [.lit (.bool false)], args := [d1, d2, d3] }
  | _ => none }
def FnExactIsStableWrongFalsely : Prop := fnExactIsStableRow.holds Tryz.pinned (OpenSpec.ofChange fnExactIsStableWrong)

/-- 'laws.FnExactValidSystem': WHATEVER THE INPUT: true; the input reads as it did. -/
def fnExactValidSystemSpec : ChangeSpec := { name := "fnExactValidSystem", fn := fun _ => fun
  | [d] => { results := [.lit (.bool true)], args := [d] }
  | _ => none }
def fnExactValidSystemRow : OpenClaim := { program := "ytcpbppblahpjbaagreat", sum := "67cd0922789e5c4d196fbe01beaf0f4399e67418419b2c3c4d0efef28d496bf4", func := "loop.example/g01081/laws.FnExactValidSystem", spec := "fnExactValidSystem", unfollowed := true, recurses := true, plainKeys := false, apart := false }
def FnExactValidSystemSaid : Prop := fnExactValidSystemRow.holds Tryz.pinned (OpenSpec.ofChange fnExactValidSystemSpec)

/-- ITS FALSE NEIGHBOUR: 'it returns false'. Refute it at one input. -/
def fnExactValidSystemWrong : ChangeSpec := { name := "fnExactValidSystem", fn := fun _ => fun
  | [d] => { results := [.lit (.bool false)], args := [d] }
  | _ => none }
def FnExactValidSystemWrongFalsely : Prop := fnExactValidSystemRow.holds Tryz.pinned (OpenSpec.ofChange fnExactValidSystemWrong)

/- THE SECOND FORM. 'bulk': how many values and letters a reading holds, each counted each time it is reached (what is shared counts as often as it is met; a slice's spare places count too). A statement '..UptoSaid' is the law's where the arguments, and the package variables that the reading takes, are together of bulk at most 1048576: NARROWER than '..Said'. Prove '..Said' where nothing that the law and all that it calls make is longer than what came in: it says more and counts as full. Else prove '..UptoSaid'. A law counts once. -/
mutual
def uptoBulk {H : Type} : DataW H → Nat
  | .lit (.string bytes) => bytes.length + 1
  | .lit _ => 1
  | .nil => 1
  | .ptr d => uptoBulk d + 1
  | .slice elems spare => uptoBulkAll elems + uptoBulkAll spare + 1
  | .agg parts => uptoBulkAll parts + 1
  | .iface _ d => uptoBulk d + 1
  | .map entries => uptoBulkEntries entries + 1
  | .held _ => 1
def uptoBulkAll {H : Type} : List (DataW H) → Nat
  | [] => 0
  | d :: r => uptoBulk d + uptoBulkAll r
def uptoBulkEntries {H : Type} : List (Lit × DataW H) → Nat
  | [] => 0
  | x :: r => uptoBulkEntry x + uptoBulkEntries r
def uptoBulkEntry {H : Type} : Lit × DataW H → Nat
  | (.string bytes, d) => bytes.length + uptoBulk d + 1
  | (_, d) => uptoBulk d + 1
 end
def uptoSmall : (H : Type) → List (DataW H) → Bool := fun _ ds => decide (uptoBulkAll ds ≤ 1048576)
def OpenSpec.upto (s : _root_.Go.ChangeSpec) : _root_.Go.OpenSpec := { _root_.Go.OpenSpec.ofChange s with cond := some uptoSmall }

/-- 'laws.FnExactCountWounds', WHERE WHAT IT READS IS OF BULK AT MOST 1048576: true; the input reads as it did. -/
def fnExactCountWoundsUptoRow : OpenClaim := { program := "ytcpbppblahpjbaagreat", sum := "67cd0922789e5c4d196fbe01beaf0f4399e67418419b2c3c4d0efef28d496bf4", func := "loop.example/g01081/laws.FnExactCountWounds", spec := "fnExactCountWounds", unfollowed := true, recurses := true, plainKeys := false, apart := false, narrowed := true }
def FnExactCountWoundsUptoSaid : Prop := fnExactCountWoundsUptoRow.holds Tryz.pinned (OpenSpec.upto fnExactCountWoundsSpec)

/-- 'laws.FnExactSlackOf', WHERE WHAT IT READS IS OF BULK AT MOST 1048576: true; the input reads as it did. -/
def fnExactSlackOfUptoRow : OpenClaim := { program := "ytcpbppblahpjbaagreat", sum := "67cd0922789e5c4d196fbe01beaf0f4399e67418419b2c3c4d0efef28d496bf4", func := "loop.example/g01081/laws.FnExactSlackOf", spec := "fnExactSlackOf", unfollowed := true, recurses := true, plainKeys := false, apart := false, narrowed := true }
def FnExactSlackOfUptoSaid : Prop := fnExactSlackOfUptoRow.holds Tryz.pinned (OpenSpec.upto fnExactSlackOfSpec)

/-- 'laws.FnExactLooseTiles', WHERE WHAT IT READS IS OF BULK AT MOST 1048576: true; the input reads as it did. -/
def fnExactLooseTilesUptoRow : OpenClaim := { program := "ytcpbppblahpjbaagreat", sum := "67cd0922789e5c4d196fbe01beaf0f4399e67418419b2c3c4d0efef28d496bf4", func := "loop.example/g01081/laws.FnExactLooseTiles", spec := "fnExactLooseTiles", unfollowed := true, recurses := true, plainKeys := false, apart := false, narrowed := true }
def FnExactLooseTilesUptoSaid : Prop := fnExactLooseTilesUptoRow.holds Tryz.pinned (OpenSpec.upto fnExactLooseTilesSpec)

/-- 'laws.FnExactRowTiles', WHERE WHAT IT READS IS OF BULK AT MOST 1048576: true; the input reads as it did. -/
def fnExactRowTilesUptoRow : OpenClaim := { program := "ytcpbppblahpjbaagreat", sum := "67cd0922789e5c4d196fbe01beaf0f4399e67418419b2c3c4d0efef28d496bf4", func := "loop.example/g01081/laws.FnExactRowTiles", spec := "fnExactRowTiles", unfollowed := true, recurses := true, plainKeys := false, apart := false, narrowed := true }
def FnExactRowTilesUptoSaid : Prop := fnExactRowTilesUptoRow.holds Tryz.pinned (OpenSpec.upto fnExactRowTilesSpec)

/-- 'laws.FnExactValidDesk', WHERE WHAT IT READS IS OF BULK AT MOST 1048576: true; the input reads as it did. -/
def fnExactValidDeskUptoRow : OpenClaim := { program := "ytcpbppblahpjbaagreat", sum := "67cd0922789e5c4d196fbe01beaf0f4399e67418419b2c3c4d0efef28d496bf4", func := "loop.example/g01081/laws.FnExactValidDesk", spec := "fnExactValidDesk", unfollowed := true, recurses := true, plainKeys := false, apart := false, narrowed := true }
def FnExactValidDeskUptoSaid : Prop := fnExactValidDeskUptoRow.holds Tryz.pinned (OpenSpec.upto fnExactValidDeskSpec)

/-- 'laws.FnExactIsTerminal', WHERE WHAT IT READS IS OF BULK AT MOST 1048576: true; the input reads as it did. -/
def fnExactIsTerminalUptoRow : OpenClaim := { program := "ytcpbppblahpjbaagreat", sum := "67cd0922789e5c4d196fbe01beaf0f4399e67418419b2c3c4d0efef28d496bf4", func := "loop.example/g01081/laws.FnExactIsTerminal", spec := "fnExactIsTerminal", unfollowed := true, recurses := true, plainKeys := false, apart := false, narrowed := true }
def FnExactIsTerminalUptoSaid : Prop := fnExactIsTerminalUptoRow.holds Tryz.pinned (OpenSpec.upto fnExactIsTerminalSpec)

/-- 'laws.FnExactIsSettled', WHERE WHAT IT READS IS OF BULK AT MOST 1048576: true; the input reads as it did. -/
def fnExactIsSettledUptoRow : OpenClaim := { program := "ytcpbppblahpjbaagreat", sum := "67cd0922789e5c4d196fbe01beaf0f4399e67418419b2c3c4d0efef28d496bf4", func := "loop.example/g01081/laws.FnExactIsSettled", spec := "fnExactIsSettled", unfollowed := true, recurses := true, plainKeys := false, apart := false, narrowed := true }
def FnExactIsSettledUptoSaid : Prop := fnExactIsSettledUptoRow.holds Tryz.pinned (OpenSpec.upto fnExactIsSettledSpec)

/-- 'laws.FnExactAttach', WHERE WHAT IT READS IS OF BULK AT MOST 1048576: true; the input reads as it did. -/
def fnExactAttachUptoRow : OpenClaim := { program := "ytcpbppblahpjbaagreat", sum := "67cd0922789e5c4d196fbe01beaf0f4399e67418419b2c3c4d0efef28d496bf4", func := "loop.example/g01081/laws.FnExactAttach", spec := "fnExactAttach", inPlace := ["slices.overlaps[loop.example/g01081/impl.Placed]"], unfollowed := true, recurses := true, plainKeys := false, apart := false, narrowed := true }
def FnExactAttachUptoSaid : Prop := fnExactAttachUptoRow.holds Tryz.pinned (OpenSpec.upto fnExactAttachSpec)

/-- 'laws.FnExactSeparatingPart', WHERE WHAT IT READS IS OF BULK AT MOST 1048576: true; the input reads as it did. -/
def fnExactSeparatingPartUptoRow : OpenClaim := { program := "ytcpbppblahpjbaagreat", sum := "67cd0922789e5c4d196fbe01beaf0f4399e67418419b2c3c4d0efef28d496bf4", func := "loop.example/g01081/laws.FnExactSeparatingPart", spec := "fnExactSeparatingPart", unfollowed := true, recurses := true, plainKeys := false, apart := false, narrowed := true }
def FnExactSeparatingPartUptoSaid : Prop := fnExactSeparatingPartUptoRow.holds Tryz.pinned (OpenSpec.upto fnExactSeparatingPartSpec)

/-- 'laws.FnExactIsStable', WHERE WHAT IT READS IS OF BULK AT MOST 1048576: true; the input reads as it did. -/
def fnExactIsStableUptoRow : OpenClaim := { program := "ytcpbppblahpjbaagreat", sum := "67cd0922789e5c4d196fbe01beaf0f4399e67418419b2c3c4d0efef28d496bf4", func := "loop.example/g01081/laws.FnExactIsStable", spec := "fnExactIsStable", unfollowed := true, recurses := true, plainKeys := false, apart := false, narrowed := true }
def FnExactIsStableUptoSaid : Prop := fnExactIsStableUptoRow.holds Tryz.pinned (OpenSpec.upto fnExactIsStableSpec)

/-- 'laws.FnExactValidSystem', WHERE WHAT IT READS IS OF BULK AT MOST 1048576: true; the input reads as it did. -/
def fnExactValidSystemUptoRow : OpenClaim := { program := "ytcpbppblahpjbaagreat", sum := "67cd0922789e5c4d196fbe01beaf0f4399e67418419b2c3c4d0efef28d496bf4", func := "loop.example/g01081/laws.FnExactValidSystem", spec := "fnExactValidSystem", unfollowed := true, recurses := true, plainKeys := false, apart := false, narrowed := true }
def FnExactValidSystemUptoSaid : Prop := fnExactValidSystemUptoRow.holds Tryz.pinned (OpenSpec.upto fnExactValidSystemSpec)

end Rows
end Go.Proofs.YtcpbppblahpjbaaGreat
