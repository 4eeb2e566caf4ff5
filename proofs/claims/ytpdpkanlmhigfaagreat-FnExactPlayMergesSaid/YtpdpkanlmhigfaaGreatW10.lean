/- Walks: the checks of an assembly. -/
import Derived.Test.YtpdpkanlmhigfaaGreatW9
namespace Go.Proofs.YtpdpkanlmhigfaaGreat
open Go.RowKit
set_option linter.unusedSimpArgs false
set_option linter.unusedVariables false
attribute [local go_sem] BelowBy.cell BelowBy.cell_drew stillUpon givesUpon
/-- what the program asks of a set and an assembly -/
def validAsmB (gs : List Gl) (ts : List Ti) (xs : List Pl) : Bool := validSetB gs ts && (hasFormB xs && allB xs.length (okTile ts.length xs))
set_option maxHeartbeats 1000000 in
theorem ValidAssembly_any (G T A : Option Addr) (n cg m ct q ca : Nat) (gs : List Gl) (ts : List Ti) (xs : List Pl) (w : World) (hG : RdSl 2 RGl w G n gs) (hT : RdSl 2 RTi w T m ts) (hA : RdSl 3 RPl w A q xs) (hgm : n ≤ 281474976710656) (htm : m ≤ 281474976710656) (hq : q ≤ 1073741824)
    (hgn : ∀ (k : Nat) (e : Gl), gs[k]? = some e → e.name.size ≤ 9223372036854775807) (htn : ∀ (k : Nat) (e : Ti), ts[k]? = some e → e.name.size ≤ 9223372036854775807 ∧ e.sides.length ≤ 9223372036854775807) :
    Calls Tryz.prog 57 #[.agg #[.slice G n cg, .slice T m ct], .agg #[.slice A q ca]] w fun e w' => e = .returned (.bool (validAsmB gs ts xs)) ∧ Below w.heap.size w w' := by
  have hlt := hT.len
  have hla := hA.len
  have hgn := Lib.hid hgn
  have htn := Lib.hid htn
  cases hv : validSetB gs ts
  · 
    go_enter Tryz.func57, Tryz.ntmps57
    go_wp2_with (go_at_call 54; refine (ValidSet_any _ _ _ _ _ _ gs ts _ (hG.below RGl.stable (by exact bel_)) (hT.below RTi.stable (by exact bel_)) hgm htm hgn.out htn.out).mono ?_; rintro e w1 ⟨rfl, hb1⟩; obtain ⟨chb1, fhb1, shb1, thb1⟩ := bcell hb1; (try have bhb10 := shb1 (w.heap.size) (by go_simp)))
    go_ret
    exact ⟨ret_bool (by unfold validAsmB; rw [hv]; rfl), by exact bel_⟩
  · have hm : m ≤ 160 := by
      unfold validSetB at hv; simp at hv; omega
    cases hf : hasFormB xs
    · 
      go_enter Tryz.func57, Tryz.ntmps57
      go_wp2_with (first
        | (go_at_call 54; refine (ValidSet_any _ _ _ _ _ _ gs ts _ (hG.below RGl.stable (by exact bel_)) (hT.below RTi.stable (by exact bel_)) hgm htm hgn.out htn.out).mono ?_; rintro e w1 ⟨rfl, hb1⟩; obtain ⟨chb1, fhb1, shb1, thb1⟩ := bcell hb1; (try have bhb10 := shb1 (w.heap.size) (by go_simp)); (try have bhb11 := shb1 (w.heap.size + 1) (by go_simp)))
        | (go_at_call 84; refine (hasForm_any _ _ _ xs _ (hA.below RPl.stable (by exact bel_)) hq).mono ?_; rintro e w2 ⟨rfl, hb2⟩; obtain ⟨chb2, fhb2, shb2, thb2⟩ := bcell hb2; (try have bhb20 := shb2 (w.heap.size) (by go_simp)); (try have bhb21 := shb2 (w.heap.size + 1) (by go_simp))))
      go_ret
      exact ⟨ret_bool (by unfold validAsmB; rw [hv, hf]; rfl), by exact bel_⟩
    · cases ht : allB q (okTile m xs)
      all_goals
        go_enter Tryz.func57, Tryz.ntmps57
        go_wp2_with (first
          | (go_at_call 54; refine (ValidSet_any _ _ _ _ _ _ gs ts _ (hG.below RGl.stable (by exact bel_)) (hT.below RTi.stable (by exact bel_)) hgm htm hgn.out htn.out).mono ?_; rintro e w1 ⟨rfl, hb1⟩; obtain ⟨chb1, fhb1, shb1, thb1⟩ := bcell hb1; (try have bhb10 := shb1 (w.heap.size) (by go_simp)); (try have bhb11 := shb1 (w.heap.size + 1) (by go_simp)))
          | (go_at_call 84; refine (hasForm_any _ _ _ xs _ (hA.below RPl.stable (by exact bel_)) hq).mono ?_; rintro e w2 ⟨rfl, hb2⟩; obtain ⟨chb2, fhb2, shb2, thb2⟩ := bcell hb2; (try have bhb20 := shb2 (w.heap.size) (by go_simp)); (try have bhb21 := shb2 (w.heap.size + 1) (by go_simp))))
        refine (ContainsFuncP_any w.heap.size G T _ n cg m ct _ _ xs _ (by go_simp) (by go_simp) (by go_simp) (by omega) (hA.below RPl.stable (by exact bel_)) (by omega)).mono ?_
        rintro _ w3 ⟨rfl, hb3⟩
        go_wp2
        go_ret
        exact ⟨ret_bool (by unfold validAsmB; rw [hv, hf, hla, hlt, ht]; rfl), by exact bel_⟩
/-- An assembly lies in block p. -/
structure AsmAt (w : World) (p op : Nat) (xs : List Pl) : Prop where
  lt : p < w.heap.size
  tl : ∃ A n c, w.cell? ⟨p, op, none⟩ = some (.slice A n c) ∧ RdSl 3 RPl w A n xs
theorem AsmAt.below {op : Nat} {w w' : World} {p : Nat} {xs : List Pl} (h : AsmAt w p op xs) (hb : Below w.heap.size w w') : AsmAt w' p op xs := by
  obtain ⟨A, n, c, h1, h2⟩ := h.tl
  exact ⟨Nat.lt_of_lt_of_le h.lt hb.size, ⟨A, n, c, (hb.cell (p := ⟨p, op, none⟩) h.lt).trans h1, h2.below RPl.stable hb⟩⟩
theorem okPl_eq0 {xs : List Pl} {e : Pl} (h : xs[0]? = some e) : okPl xs 0 = (validPt e.x e.y && inB e.t 0 159) := by
  unfold okPl; rw [h]; simp
theorem okPl_eqS {xs : List Pl} {k : Nat} {e d : Pl} (h : xs[k + 1]? = some e) (hd : xs[k]? = some d) : okPl xs (k + 1) = (validPt e.x e.y && inB e.t 0 159 && lessPt d.x d.y e.x e.y) := by
  unfold okPl; rw [h]; simp only [hd]
theorem hasFormB_bad {xs : List Pl} {k : Nat} (hk : k < xs.length) (h : okPl xs k = false) : hasFormB xs = false := by
  unfold hasFormB; rw [allB_false hk h]; rfl
theorem hasFormB_ok {xs : List Pl} (h1 : xs.length ≤ 500) (h : ∀ j, j < xs.length → okPl xs j = true) : hasFormB xs = true := by
  unfold hasFormB; rw [allB_true h]; simpa using h1
theorem hasFormB_long {xs : List Pl} (h1 : ¬ xs.length ≤ 500) : hasFormB xs = false := by
  unfold hasFormB; rw [decide_eq_false h1]; simp
end Go.Proofs.YtpdpkanlmhigfaaGreat
