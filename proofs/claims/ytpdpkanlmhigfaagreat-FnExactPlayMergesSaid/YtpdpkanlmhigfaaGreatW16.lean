/- The reference's list of bonds. -/
import Derived.Test.YtpdpkanlmhigfaaGreatW15
import Derived.Test.YtpdpkanlmhigfaaGreatW11
namespace Go.Proofs.YtpdpkanlmhigfaaGreat
open Go.RowKit
set_option linter.unusedSimpArgs false
set_option linter.unusedVariables false
attribute [local go_sem] BelowBy.cell BelowBy.cell_drew stillUpon givesUpon

theorem l02Bond_at {op : Nat} {p : Nat} {gs : List Gl} {ts : List Ti} {xs : List Pl} {a b r : Int} {d : Nat} {w : World} (an bn : Nat) (h1 : a = an) (h2 : b = bn) (hs : SetAt w p op gs ts) (hV : Valid gs ts xs) (ha : an < ts.length) (hb : bn < ts.length) (hd : d < 4) (hr : bondI gs ts an d bn = r) :
    Calls Tryz.prog 97 #[.pointer (some ⟨p, op, none⟩), .int .i64 a, .int .i64 d, .int .i64 b] w fun e w' => e = .returned (.int .i64 r) ∧ Below w.heap.size w w' := by
  subst h1 h2 hr; exact l02Bond_any p gs ts xs _ _ _ w hs hV ha hb hd
end Go.Proofs.YtpdpkanlmhigfaaGreat
