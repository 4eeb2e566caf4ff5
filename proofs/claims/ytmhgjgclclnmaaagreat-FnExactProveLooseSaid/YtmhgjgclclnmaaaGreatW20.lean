/- Walks: BondsOf, the program's and the reference's. -/
import Derived.Test.YtmhgjgclclnmaaaGreatW17
import Derived.Test.YtmhgjgclclnmaaaGreatW17a
import Derived.Test.YtmhgjgclclnmaaaGreatW20a
namespace Go.Proofs.YtmhgjgclclnmaaaGreat
open Go.RowKit Go.Shelf
set_option linter.unusedSimpArgs false
set_option linter.unusedVariables false
attribute [local go_sem] BelowBy.cell BelowBy.cell_drew stillUpon givesUpon BelowBy.cell_drew2 BelowBy.cell_drew3

/-- a row of bonds and a code -/
def BdsRes (w : World) (r : List Bd × Int) (e : Ending) (w' : World) : Prop :=
  ∃ A c, e = .returned (.tuple #[.slice A r.1.length c, .int .i64 r.2]) ∧ w'.ownsRow w.heap.size 49 3 (.slice A r.1.length c) r.1.length (bdCells r.1) ∧ Below w.heap.size w w'
theorem BdsRes.of {w w' : World} {r : List Bd × Int} {bs : List Bd} {c : Int} {v : Value} (h : (bs, c) = r) (hr : w'.ownsRow w.heap.size 49 3 v bs.length (bdCells bs)) (hb : Below w.heap.size w w') : BdsRes w r (.returned (.tuple #[v, .int .i64 c])) w' := by
  subst h
  obtain ⟨A, cap, rfl, _⟩ := rd_of_row hr
  exact ⟨A, cap, rfl, hr, hb⟩
noncomputable def bondsOfR (gs : List Gl) (ts : List Ti) (xs : List Pl) : List Bd × Int := if validAsmB gs ts xs = true then (bondsL gs ts xs, 0) else ([], 1)
theorem bondsOfR_no {gs : List Gl} {ts : List Ti} {xs : List Pl} (h : validAsmB gs ts xs = false) : (([], 1) : List Bd × Int) = bondsOfR gs ts xs := by unfold bondsOfR; rw [h, if_neg (by decide)]
theorem bondsOfR_yes {gs : List Gl} {ts : List Ti} {xs : List Pl} (h : validAsmB gs ts xs = true) : ((bondsL gs ts xs, 0) : List Bd × Int) = bondsOfR gs ts xs := by unfold bondsOfR; rw [h, if_pos rfl]
set_option maxRecDepth 100000 in
set_option maxHeartbeats 1000000 in
theorem BondsOf_any (G T A : Option Addr) (n cg m ct q ca : Nat) (gs : List Gl) (ts : List Ti) (xs : List Pl) (w : World) (h : SA w G n T m A q gs ts xs) :
    Calls Tryz.prog 17 #[.agg #[.slice G n cg, .slice T m ct], .agg #[.slice A q ca]] w (BdsRes w (bondsOfR gs ts xs)) := by
  have h := Lib.hid h
  cases hv : validAsmB gs ts xs
  · have hvH := Lib.hid hv
    clear hv
    go_enter Tryz.func17, Tryz.ntmps17
    go_wp2_with fail
    refine ((h.out.below (by exact bel_)).valid hvH.out).mono ?_
    rintro e w1 ⟨rfl, hb1⟩
    go_wp2
    go_ret2
    exact BdsRes.of (bondsOfR_no hvH.out) (World.ownsRow_nil _ _ _ _) (by exact bel_)
  · have hvH := Lib.hid hv
    have hV := valid_of hv
    clear hv
    go_enter Tryz.func17, Tryz.ntmps17
    go_wp2_with fail
    refine ((h.out.below (by exact bel_)).valid hvH.out).mono ?_
    rintro e w1 ⟨rfl, hb1⟩
    obtain ⟨chb1, fhb1, shb1, thb1⟩ := bcell hb1
    go_wp2_with fail
    refine ((h.out.below (by exact bel_)).bonds hV).mono ?_
    rintro e w2 ⟨v, rfl, hrow, hb2⟩
    have hz : w.heap.size ≤ w1.heap.size := by have := hb1.size; simp at this; omega
    have hrowH := Lib.hid hrow
    clear hrow
    go_wp2
    go_ret2
    exact BdsRes.of (bondsOfR_yes hvH.out) (ownsRow_base hrowH.out hz) (by exact bel_)
end Go.Proofs.YtmhgjgclclnmaaaGreat
