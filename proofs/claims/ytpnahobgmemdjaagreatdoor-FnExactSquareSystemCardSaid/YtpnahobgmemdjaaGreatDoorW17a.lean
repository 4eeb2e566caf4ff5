/- Small words: cells behind draws; what is asked of a set and an assembly. -/
import Derived.Test.YtpnahobgmemdjaaGreatDoorW15
import Derived.Test.YtpnahobgmemdjaaGreatDoorW11
import Derived.Test.YtpnahobgmemdjaaGreatDoorP2
import Derived.Test.YtpnahobgmemdjaaGreatDoorW13
namespace Go.Proofs.YtpnahobgmemdjaaGreatDoor
open Go.RowKit
set_option linter.unusedSimpArgs false
set_option linter.unusedVariables false
theorem BelowBy.cell_drew2 {W : World} (p : BelowBy W.drew.drew) (b o : Nat) (h : b < W.heap.size) : p.world.cell? ⟨b, o, none⟩ = W.cell? ⟨b, o, none⟩ := p.h.cell h
theorem BelowBy.cell_drew3 {W : World} (p : BelowBy W.drew.drew.drew) (b o : Nat) (h : b < W.heap.size) : p.world.cell? ⟨b, o, none⟩ = W.cell? ⟨b, o, none⟩ := p.h.cell h
theorem l00In_at {a b c : Int} {v : Bool} {w : World} (h : inB a b c = v) :
    Calls Tryz.prog 9 #[.int .i64 a, .int .i64 b, .int .i64 c] w fun e w' => e = .returned (.bool v) ∧ w = w' := by
  rw [← h]; exact l00In_any _ _ _ _
def ChkRes (w : World) (r : Int × Int) (e : Ending) (w' : World) : Prop := e = .returned (.tuple #[.int .i64 r.1, .int .i64 r.2]) ∧ Below w.heap.size w w'
theorem ChkRes.of {w : World} {r : Int × Int} {a b : Int} {w' : World} (h : (a, b) = r) (hb : Below w.heap.size w w') : ChkRes w r (.returned (.tuple #[.int .i64 a, .int .i64 b])) w' := by
  subst h; exact ⟨rfl, hb⟩
theorem wrap_in {n : Int} (h1 : -9000000000000000000 ≤ n) (h2 : n ≤ 9000000000000000000) : IntKind.i64.wrap n = n := by
  simp [IntKind.wrap, IntKind.bits, IntKind.signed]; omega
theorem within_at {a b c : Int} {v : Bool} {w : World} (h : inB a b c = v) :
    Calls Tryz.prog 32 #[.int .i64 a, .int .i64 b, .int .i64 c] w fun e w' => e = .returned (.bool v) ∧ w = w' := by
  rw [← h]; exact within_any _ _ _ _
end Go.Proofs.YtpnahobgmemdjaaGreatDoor
