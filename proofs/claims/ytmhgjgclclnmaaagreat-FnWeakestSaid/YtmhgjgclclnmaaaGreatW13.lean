/- Walks: placeAt, cutCode. -/
import Derived.Test.YtmhgjgclclnmaaaGreatW12
namespace Go.Proofs.YtmhgjgclclnmaaaGreat
open Go.RowKit
set_option linter.unusedSimpArgs false
set_option linter.unusedVariables false
attribute [local go_sem] BelowBy.cell BelowBy.cell_drew stillUpon givesUpon

set_option maxHeartbeats 1000000 in
theorem placeAt_any (A : Option Addr) (n c : Nat) (gs : List Gl) (ts : List Ti) (xs : List Pl) (x y : Int) (w : World) (h2 : RdSl 3 RPl w A n xs) (hV : Valid gs ts xs) :
    Calls Tryz.prog 140 #[.agg #[.slice A n c], .agg #[.int .i64 x, .int .i64 y]] w fun e w' => e = .returned (.int .i64 (placeI xs x y)) ∧ Below w.heap.size w w' := by
  go_enter Tryz.func140, Tryz.ntmps140
  go_wp2_with fail
  refine (BinarySearch_any _ _ _ gs ts xs _ _ _ (h2.below RPl.stable (by exact bel_)) hV).mono ?_
  rintro e w1 ⟨r, b, rfl, ⟨hp, _⟩, hb1⟩
  cases b
  · go_wp2
    go_ret
    exact ⟨ret_int hp, by exact bel_⟩
  · go_wp2
    go_ret
    exact ⟨ret_int hp, by exact bel_⟩
def cutCodeI (v : Bool) (n x y : Int) : Int := if v then (if inB x 0 (n - 1) && (inB y 0 (n - 1) && !(x == y)) then 0 else 2) else 1
set_option maxHeartbeats 2000000 in
theorem cutCode_any (G T A : Option Addr) (n cg m ct q ca : Nat) (gs : List Gl) (ts : List Ti) (xs : List Pl) (x y : Int) (w : World) (hG : RdSl 2 RGl w G n gs) (hT : RdSl 2 RTi w T m ts) (hA : RdSl 3 RPl w A q xs) (hgm : n ≤ 281474976710656) (htm : m ≤ 281474976710656) (hq : q ≤ 1073741824)
    (hgn : ∀ (k : Nat) (e : Gl), gs[k]? = some e → e.name.size ≤ 9223372036854775807) (htn : ∀ (k : Nat) (e : Ti), ts[k]? = some e → e.name.size ≤ 9223372036854775807 ∧ e.sides.length ≤ 9223372036854775807) :
    Calls Tryz.prog 50 #[.agg #[.slice G n cg, .slice T m ct], .agg #[.slice A q ca], .int .i64 x, .int .i64 y] w fun e w' => e = .returned (.int .i64 (cutCodeI (validAsmB gs ts xs) q x y)) ∧ Below w.heap.size w w' := by
  have hgn := Lib.hid hgn
  have htn := Lib.hid htn
  cases hv : validAsmB gs ts xs
  · go_enter Tryz.func50, Tryz.ntmps50
    go_wp2_with (go_at_call 53; refine (ValidAssembly_any _ _ _ _ _ _ _ _ _ gs ts xs _ (hG.below RGl.stable (by exact bel_)) (hT.below RTi.stable (by exact bel_)) (hA.below RPl.stable (by exact bel_)) hgm htm hq hgn.out htn.out).mono ?_; rw [hv]; rintro e w1 ⟨rfl, hb1⟩)
    go_ret
    exact ⟨rfl, by exact bel_⟩
  · cases hx : inB x 0 (q - 1)
    · 
      go_enter Tryz.func50, Tryz.ntmps50
      go_wp2_with (first
        | (go_at_call 53; refine (ValidAssembly_any _ _ _ _ _ _ _ _ _ gs ts xs _ (hG.below RGl.stable (by exact bel_)) (hT.below RTi.stable (by exact bel_)) (hA.below RPl.stable (by exact bel_)) hgm htm hq hgn.out htn.out).mono ?_; rw [hv]; rintro e w1 ⟨rfl, hb1⟩; obtain ⟨chb1, fhb1, shb1, thb1⟩ := bcell hb1; have bhb1 := shb1 (w.heap.size + 1) (by go_simp))
        | (go_at_call 101; refine (isIndex_any _ _ _ (by omega) (by omega)).mono ?_; rintro e _ ⟨rfl, rfl⟩))
      go_ret
      exact ⟨ret_int (by unfold cutCodeI; rw [hx]; rfl), by exact bel_⟩
    · cases hy : inB y 0 (q - 1)
      · go_enter Tryz.func50, Tryz.ntmps50
        go_wp2_with (first
          | (go_at_call 53; refine (ValidAssembly_any _ _ _ _ _ _ _ _ _ gs ts xs _ (hG.below RGl.stable (by exact bel_)) (hT.below RTi.stable (by exact bel_)) (hA.below RPl.stable (by exact bel_)) hgm htm hq hgn.out htn.out).mono ?_; rw [hv]; rintro e w1 ⟨rfl, hb1⟩; obtain ⟨chb1, fhb1, shb1, thb1⟩ := bcell hb1; have bhb1 := shb1 (w.heap.size + 1) (by go_simp))
          | (go_at_call 101; refine (isIndex_any _ _ _ (by omega) (by omega)).mono ?_; rintro e _ ⟨rfl, rfl⟩))
        go_ret
        exact ⟨ret_int (by unfold cutCodeI; rw [hx, hy]; rfl), by exact bel_⟩
      · by_cases hxy : x = y
        · subst hxy
          go_enter Tryz.func50, Tryz.ntmps50
          go_wp2_with (first
            | (go_at_call 53; refine (ValidAssembly_any _ _ _ _ _ _ _ _ _ gs ts xs _ (hG.below RGl.stable (by exact bel_)) (hT.below RTi.stable (by exact bel_)) (hA.below RPl.stable (by exact bel_)) hgm htm hq hgn.out htn.out).mono ?_; rw [hv]; rintro e w1 ⟨rfl, hb1⟩; obtain ⟨chb1, fhb1, shb1, thb1⟩ := bcell hb1; have bhb1 := shb1 (w.heap.size + 1) (by go_simp))
            | (go_at_call 101; refine (isIndex_any _ _ _ (by omega) (by omega)).mono ?_; rintro e _ ⟨rfl, rfl⟩))
          go_ret
          exact ⟨ret_int (by unfold cutCodeI; rw [hx]; simp), by exact bel_⟩
        · have hxy' : (x == y) = false := by simpa using hxy
          go_enter Tryz.func50, Tryz.ntmps50
          go_wp2_with (first
            | (go_at_call 53; refine (ValidAssembly_any _ _ _ _ _ _ _ _ _ gs ts xs _ (hG.below RGl.stable (by exact bel_)) (hT.below RTi.stable (by exact bel_)) (hA.below RPl.stable (by exact bel_)) hgm htm hq hgn.out htn.out).mono ?_; rw [hv]; rintro e w1 ⟨rfl, hb1⟩; obtain ⟨chb1, fhb1, shb1, thb1⟩ := bcell hb1; have bhb1 := shb1 (w.heap.size + 1) (by go_simp))
            | (go_at_call 101; refine (isIndex_any _ _ _ (by omega) (by omega)).mono ?_; rintro e _ ⟨rfl, rfl⟩))
          go_ret
          exact ⟨ret_int (by unfold cutCodeI; rw [hx, hy, hxy']; rfl), by exact bel_⟩
end Go.Proofs.YtmhgjgclclnmaaaGreat
