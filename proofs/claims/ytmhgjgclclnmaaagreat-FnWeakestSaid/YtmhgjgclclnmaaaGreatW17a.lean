/- Small words: cells behind draws; what is asked of a set and an assembly. -/
import Derived.Test.YtmhgjgclclnmaaaGreatW16
import Derived.Test.YtmhgjgclclnmaaaGreatP2
import Derived.Test.YtmhgjgclclnmaaaGreatW13
namespace Go.Proofs.YtmhgjgclclnmaaaGreat
open Go.RowKit
set_option linter.unusedSimpArgs false
set_option linter.unusedVariables false
theorem BelowBy.cell_drew2 {W : World} (p : BelowBy W.drew.drew) (b o : Nat) (h : b < W.heap.size) : p.world.cell? ⟨b, o, none⟩ = W.cell? ⟨b, o, none⟩ := p.h.cell h
theorem BelowBy.cell_drew3 {W : World} (p : BelowBy W.drew.drew.drew) (b o : Nat) (h : b < W.heap.size) : p.world.cell? ⟨b, o, none⟩ = W.cell? ⟨b, o, none⟩ := p.h.cell h
theorem l06Asked_at {op oq : Nat} {p q : Nat} {gs : List Gl} {ts : List Ti} {xs : List Pl} {v : Bool} {w : World} (hs : SetAt w p op gs ts) (ha : AsmAt w q oq xs) (hq : xs.length ≤ 1073741824) (hgm : gs.length ≤ 281474976710656) (htm : ts.length ≤ 140737488355328)
    (hgn : ∀ (k : Nat) (e : Gl), gs[k]? = some e → e.name.size ≤ 9223372036854775807) (htn : ∀ (k : Nat) (e : Ti), ts[k]? = some e → e.name.size ≤ 9223372036854775807 ∧ e.sides.length ≤ 9223372036854775807) (hv : validAsmB gs ts xs = v) :
    Calls Tryz.prog 77 #[.pointer (some ⟨p, op, none⟩), .pointer (some ⟨q, oq, none⟩)] w fun e w' => e = .returned (.int .i64 (codeB v)) ∧ Below w.heap.size w w' := by
  rw [← hv]; exact l06Asked_any p q gs ts xs w hs ha hq hgm htm hgn htn
theorem l00In_at {a b c : Int} {v : Bool} {w : World} (h : inB a b c = v) :
    Calls Tryz.prog 96 #[.int .i64 a, .int .i64 b, .int .i64 c] w fun e w' => e = .returned (.bool v) ∧ w = w' := by
  rw [← h]; exact l00In_any _ _ _ _
def ChkRes (w : World) (r : Int × Int) (e : Ending) (w' : World) : Prop := e = .returned (.tuple #[.int .i64 r.1, .int .i64 r.2]) ∧ Below w.heap.size w w'
theorem ChkRes.of {w : World} {r : Int × Int} {a b : Int} {w' : World} (h : (a, b) = r) (hb : Below w.heap.size w w') : ChkRes w r (.returned (.tuple #[.int .i64 a, .int .i64 b])) w' := by
  subst h; exact ⟨rfl, hb⟩
theorem wrap_in {n : Int} (h1 : -9000000000000000000 ≤ n) (h2 : n ≤ 9000000000000000000) : IntKind.i64.wrap n = n := by
  simp [IntKind.wrap, IntKind.bits, IntKind.signed]; omega
theorem within_at {a b c : Int} {v : Bool} {w : World} (h : inB a b c = v) :
    Calls Tryz.prog 51 #[.int .i64 a, .int .i64 b, .int .i64 c] w fun e w' => e = .returned (.bool v) ∧ w = w' := by
  rw [← h]; exact within_any _ _ _ _
theorem cutCode_at {G T A : Option Addr} {n cg m ct q ca : Nat} {gs : List Gl} {ts : List Ti} {xs : List Pl} {x y r : Int} {w : World} (hG : RdSl 2 RGl w G n gs) (hT : RdSl 2 RTi w T m ts) (hA : RdSl 3 RPl w A q xs) (hgm : n ≤ 281474976710656) (htm : m ≤ 281474976710656) (hq : q ≤ 1073741824)
    (hgn : ∀ (k : Nat) (e : Gl), gs[k]? = some e → e.name.size ≤ 9223372036854775807) (htn : ∀ (k : Nat) (e : Ti), ts[k]? = some e → e.name.size ≤ 9223372036854775807 ∧ e.sides.length ≤ 9223372036854775807) (hr : cutCodeI (validAsmB gs ts xs) xs.length x y = r) :
    Calls Tryz.prog 50 #[.agg #[.slice G n cg, .slice T m ct], .agg #[.slice A q ca], .int .i64 x, .int .i64 y] w fun e w' => e = .returned (.int .i64 r) ∧ Below w.heap.size w w' := by
  rw [← hr, hA.len]; exact cutCode_any _ _ _ _ _ _ _ _ _ gs ts xs _ _ _ hG hT hA hgm htm hq hgn htn
end Go.Proofs.YtmhgjgclclnmaaaGreat
