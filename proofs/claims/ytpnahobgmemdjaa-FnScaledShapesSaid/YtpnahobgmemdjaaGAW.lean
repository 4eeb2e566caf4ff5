import Derived.Test.YtpnahobgmemdjaaGAV
import Derived.Test.YtpnahobgmemdjaaGAS
import Derived.Test.YtpnahobgmemdjaaGAU
import Derived.Test.YtpnahobgmemdjaaGAT
import Derived.Test.YtpnahobgmemdjaaGAN
set_option linter.unusedSimpArgs false
set_option linter.unusedVariables false
/- Walks: PartialBlocks of the program. -/

namespace Go.Proofs.Ytpnahobgmemdjaa
open Go.RowKit Go.Shelf
attribute [local go_sem] BelowBy.cell BelowBy.cell_drew stillUpon givesUpon

/-- what is wrong with the question -/
def blkCode (xs : List Pl) (k : Int) : Int := if hasFormB xs then (if inB k 1 4 then 0 else 2) else 1
noncomputable def delC (xs : List Pl) (k : Nat) (b : Pt) : Bool := decide (0 ≤ compI xs k b)
noncomputable def parB (xs : List Pl) (k : Nat) : List Pt := (blocksP k xs).filter fun b => !(delC xs k b)
noncomputable def parR (xs : List Pl) (k : Int) : List Pt × Int := if blkCode xs k = 0 then (parB xs k.toNat, 0) else ([], blkCode xs k)
theorem parR_len (xs : List Pl) (k : Int) : (parR xs k).1.length ≤ 1073741824 := by
  unfold parR
  by_cases h : blkCode xs k = 0
  · rw [if_pos h]
    have hf : hasFormB xs = true := by
      unfold blkCode at h
      cases hx : hasFormB xs
      · rw [hx] at h; simp at h
      · rfl
    have h1 := form_len hf
    have h2 := putAll_len (xs.map (blkP ((k.toNat : Nat) : Int))) []
    rw [List.length_map] at h2
    have h3 : (parB xs k.toNat).length ≤ (blocksP ((k.toNat : Nat) : Int) xs).length := List.length_filter_le _ _
    unfold blocksP at h3
    simp only [List.length_nil] at h2
    show (parB xs k.toNat).length ≤ 1073741824
    omega
  · rw [if_neg h]; simp
theorem blocksP_len {xs : List Pl} (hf : hasFormB xs = true) (k : Int) : (blocksP k xs).length ≤ 500 := by
  have h1 := form_len hf
  have h2 := putAll_len (xs.map (blkP k)) []
  rw [List.length_map] at h2
  unfold blocksP
  simp only [List.length_nil] at h2
  omega
theorem blocksP_rng {xs : List Pl} (hf : hasFormB xs = true) {k : Int} (hk : 1 ≤ k ∧ k ≤ 4) {b : Pt} (hb : b ∈ blocksP k xs) : (-1000 ≤ b.x ∧ b.x ≤ 1000) ∧ (-1000 ≤ b.y ∧ b.y ≤ 1000) := by
  unfold blocksP at hb
  rw [putAll_mem] at hb
  rcases hb with hb | hb
  · simp at hb
  · obtain ⟨e, he, rfl⟩ := List.mem_map.1 hb
    obtain ⟨i, hi⟩ := List.mem_iff_getElem?.1 he
    have := (form_valid hf).pt i e hi
    unfold blkP
    simp only
    have h4 : k = 1 ∨ k = 2 ∨ k = 3 ∨ k = 4 := by omega
    rcases h4 with rfl | rfl | rfl | rfl <;> omega
theorem RdSl.gbP {g : Nat} {w W : World} {A : Option Addr} {n : Nat} {xs : List Pl} (h : RdSl 3 RPl w A n xs) (hA : 0 < n → ∀ b o, A = some ⟨b, o, none⟩ → b ≠ g) (hb : Gb g w W) : RdSl 3 RPl W A n xs :=
  ⟨h.len, fun hn => by
    obtain ⟨b, o, e, hlt, hc⟩ := h.cells hn
    exact ⟨b, o, e, Nat.lt_of_lt_of_le hlt hb.size, fun k hk => ⟨(hb.cell (o := o + k * 3) hlt (hA hn b o e)).trans (hc k hk).1, (hb.cell (o := o + k * 3 + 1) hlt (hA hn b o e)).trans (hc k hk).2.1, (hb.cell (o := o + k * 3 + 2) hlt (hA hn b o e)).trans (hc k hk).2.2⟩⟩⟩
theorem blockSizeOkU_at (x : Int) (w : World) {v : Bool} (h : inB x 1 4 = v) : Calls Try.prog 74 #[.int .i64 x] w fun e w' => e = .returned (.bool v) ∧ w = w' := by
  go_enter Try.func74, Try.ntmps74
  go_wp2_with (go_at_call 49; refine (within_at h).mono ?_; rintro e _ ⟨rfl, rfl⟩)
  go_ret
  exact ⟨rfl, rfl⟩
theorem blockCode_at {A : Option Addr} {n c : Nat} {xs : List Pl} {k r : Int} {w : World} (h : RdSl 3 RPl w A n xs) (hn : n ≤ 1073741824) (hr : blkCode xs k = r) :
    Calls Try.prog 44 #[.agg #[.slice A n c], .int .i64 k] w fun e w' => e = .returned (.int .i64 r) ∧ Below w.heap.size w w' := by
  subst hr
  have hH := Lib.hid h
  clear h
  cases hf : hasFormB xs
  · have hR := Lib.hid (show blkCode xs k = 1 by unfold blkCode; rw [hf]; rfl)
    have hfH := Lib.hid hf
    clear hf
    go_enter Try.func44, Try.ntmps44
    go_wp2_with (go_at_call 30; refine (hasForm_any _ _ _ xs _ (hH.out.below RPl.stable (by exact bel_)) hn).mono ?_; rw [hfH.out]; rintro e w1 ⟨rfl, hb1⟩; have hb1H := Lib.hid (show Below w.heap.size w w1 by exact bel_); clear hb1)
    go_ret
    exact ⟨ret_int hR.out.symm, hb1H.out⟩
  · cases hi : inB k 1 4
    · have hR := Lib.hid (show blkCode xs k = 2 by unfold blkCode; rw [hf, hi]; rfl)
      have hfH := Lib.hid hf
      have hiH := Lib.hid hi
      clear hf hi
      go_enter Try.func44, Try.ntmps44
      go_wp2_with (first
        | (go_at_call 30; refine (hasForm_any _ _ _ xs _ (hH.out.below RPl.stable (by exact bel_)) hn).mono ?_; rw [hfH.out]; rintro e w1 ⟨rfl, hb1⟩; have hb1H := Lib.hid (show Below w.heap.size w w1 by exact bel_); clear hb1)
        | (go_at_call 74; refine (blockSizeOkU_at _ _ hiH.out).mono ?_; rintro e _ ⟨rfl, rfl⟩))
      go_ret
      exact ⟨ret_int hR.out.symm, hb1H.out⟩
    · have hR := Lib.hid (show blkCode xs k = 0 by unfold blkCode; rw [hf, hi]; rfl)
      have hfH := Lib.hid hf
      have hiH := Lib.hid hi
      clear hf hi
      go_enter Try.func44, Try.ntmps44
      go_wp2_with (first
        | (go_at_call 30; refine (hasForm_any _ _ _ xs _ (hH.out.below RPl.stable (by exact bel_)) hn).mono ?_; rw [hfH.out]; rintro e w1 ⟨rfl, hb1⟩; have hb1H := Lib.hid (show Below w.heap.size w w1 by exact bel_); clear hb1)
        | (go_at_call 74; refine (blockSizeOkU_at _ _ hiH.out).mono ?_; rintro e _ ⟨rfl, rfl⟩))
      go_ret
      exact ⟨ret_int hR.out.symm, hb1H.out⟩
theorem blkCode_zero {xs : List Pl} {k : Int} (h : blkCode xs k = 0) : hasFormB xs = true ∧ 1 ≤ k ∧ k ≤ 4 := by
  unfold blkCode at h
  cases hx : hasFormB xs
  · rw [hx] at h; simp at h
  · cases hi : inB k 1 4
    · rw [hx, hi] at h; simp at h
    · exact ⟨rfl, inB_true.1 hi⟩
def PtsC (w : World) (r : List Pt × Int) (e : Ending) (w' : World) : Prop :=
  ∃ A c, e = .returned (.tuple #[.slice A r.1.length c, .int .i64 r.2]) ∧ w'.ownsRow w.heap.size 34 2 (.slice A r.1.length c) r.1.length (ptCells r.1) ∧ Below w.heap.size w w'
end Go.Proofs.Ytpnahobgmemdjaa
/- Walks: PartialBlocks of the reference. -/




namespace Go.Proofs.Ytpnahobgmemdjaa
open Go.RowKit Go.Shelf
attribute [local go_sem] BelowBy.cell BelowBy.cell_drew stillUpon givesUpon

theorem Gb.app {g : Nat} {w W W' : World} {row : Option Nat} (h : Gb g w W) (hg : W.grownBy W' row) (hr : ∀ g', row = some g' → g' = g ∨ w.heap.size ≤ g') : Gb g w W' :=
  ⟨hg.os.trans h.os, hg.tape.trans h.tape, hg.output.trans h.output, Nat.le_trans h.size hg.size, fun k hk hne => (hg.block k (Nat.lt_of_lt_of_le hk h.size) (fun e => by
    rcases hr k e.symm with rfl | h2
    · exact hne rfl
    · omega)).trans (h.block k hk hne)⟩
theorem RdSl.gbT {g : Nat} {w W : World} {A : Option Addr} {n : Nat} {ps : List Pt} (h : RdSl 2 RPt w A n ps) (hA : 0 < n → ∀ b o, A = some ⟨b, o, none⟩ → b ≠ g) (hb : Gb g w W) : RdSl 2 RPt W A n ps :=
  ⟨h.len, fun hn => by
    obtain ⟨b, o, e, hlt, hc⟩ := h.cells hn
    exact ⟨b, o, e, Nat.lt_of_lt_of_le hlt hb.size, fun k hk => ⟨(hb.cell (o := o + k * 2) hlt (hA hn b o e)).trans (hc k hk).1, (hb.cell (o := o + k * 2 + 1) hlt (hA hn b o e)).trans (hc k hk).2⟩⟩⟩
end Go.Proofs.Ytpnahobgmemdjaa
/- Walks: the harness' marks on a result that is an assembly, and what 'held' says of it. -/



namespace Go.Proofs.Ytpnahobgmemdjaa
open Go.RowKit
attribute [local go_sem] BelowBy.cell BelowBy.cell_drew stillUpon givesUpon

theorem rdPl {W : World} {base : Nat} {A : Option Addr} {n c : Nat} {bs : List Pl} (h : W.ownsRow base 38 3 (.slice A n c) n (plCells bs)) (hn : n = bs.length := by rfl) : RdSl 3 RPl W A n bs := by
  subst hn
  obtain ⟨A', cap, e, h'⟩ := rdP_of_row h
  injection e with e1 e2 e3
  subst e1
  exact h'
/-- an assembly and a code -/
def AsmRes (w : World) (r : List Pl × Int) (e : Ending) (w' : World) : Prop :=
  ∃ A c, e = .returned (.tuple #[.agg #[.slice A r.1.length c], .int .i64 r.2]) ∧ w'.ownsRow w.heap.size 38 3 (.slice A r.1.length c) r.1.length (plCells r.1) ∧ Below w.heap.size w w'
theorem AsmRes.of {w w' : World} {r : List Pl × Int} {bs : List Pl} {n : Nat} {c : Int} {A : Option Addr} {cap : Nat} (h : (bs, c) = r) (hn : n = bs.length) (hr : w'.ownsRow w.heap.size 38 3 (.slice A n cap) n (plCells bs)) (hb : Below w.heap.size w w') : AsmRes w r (.returned (.tuple #[.agg #[.slice A n cap], .int .i64 c])) w' := by
  subst h hn
  exact ⟨A, cap, rfl, hr, hb⟩
end Go.Proofs.Ytpnahobgmemdjaa
