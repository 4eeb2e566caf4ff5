import Derived.Test.YtkppijcjmhkkkaaGAU
import Derived.Test.YtkppijcjmhkkkaaGAR
import Derived.Test.YtkppijcjmhkkkaaGAS
import Derived.Test.YtkppijcjmhkkkaaGAT
import Derived.Test.YtkppijcjmhkkkaaGAN
set_option linter.unusedSimpArgs false
set_option linter.unusedVariables false
/- Walks: PartialBlocks of the program. -/


namespace Go.Proofs.Ytkppijcjmhkkkaa
open Go.RowKit Go.Shelf
attribute [local go_sem] BelowBy.cell BelowBy.cell_drew stillUpon givesUpon

/-- what is wrong with the question -/
def blkCode (xs : List Pl) (k : Int) : Int := if hasFormB xs then (if inB k 1 4 then 0 else 2) else 1
noncomputable def delC (xs : List Pl) (k : Nat) (b : Pt) : Bool := decide (0 ≤ compI xs k b)
noncomputable def parB (xs : List Pl) (k : Nat) : List Pt := (blocksP k xs).filter fun b => !(delC xs k b)
noncomputable def parR (xs : List Pl) (k : Int) : List Pt × Int := if blkCode xs k = 0 then (parB xs k.toNat, 0) else ([], blkCode xs k)
theorem parR_len (xs : List Pl) (k : Int) : (parR xs k).1.length ≤ 1073741824 := by
  unfold parR
  by_cases h : blkCode xs k = 0
  · rw [if_pos h]
    have hf : hasFormB xs = true := by
      unfold blkCode at h
      cases hx : hasFormB xs
      · rw [hx] at h; simp at h
      · rfl
    have h1 := form_len hf
    have h2 := putAll_len (xs.map (blkP ((k.toNat : Nat) : Int))) []
    rw [List.length_map] at h2
    have h3 : (parB xs k.toNat).length ≤ (blocksP ((k.toNat : Nat) : Int) xs).length := List.length_filter_le _ _
    unfold blocksP at h3
    simp only [List.length_nil] at h2
    show (parB xs k.toNat).length ≤ 1073741824
    omega
  · rw [if_neg h]; simp
theorem blocksP_len {xs : List Pl} (hf : hasFormB xs = true) (k : Int) : (blocksP k xs).length ≤ 500 := by
  have h1 := form_len hf
  have h2 := putAll_len (xs.map (blkP k)) []
  rw [List.length_map] at h2
  unfold blocksP
  simp only [List.length_nil] at h2
  omega
theorem blocksP_rng {xs : List Pl} (hf : hasFormB xs = true) {k : Int} (hk : 1 ≤ k ∧ k ≤ 4) {b : Pt} (hb : b ∈ blocksP k xs) : (-1000 ≤ b.x ∧ b.x ≤ 1000) ∧ (-1000 ≤ b.y ∧ b.y ≤ 1000) := by
  unfold blocksP at hb
  rw [putAll_mem] at hb
  rcases hb with hb | hb
  · simp at hb
  · obtain ⟨e, he, rfl⟩ := List.mem_map.1 hb
    obtain ⟨i, hi⟩ := List.mem_iff_getElem?.1 he
    have := (form_valid hf).pt i e hi
    unfold blkP
    simp only
    have h4 : k = 1 ∨ k = 2 ∨ k = 3 ∨ k = 4 := by omega
    rcases h4 with rfl | rfl | rfl | rfl <;> omega
theorem RdSl.gbP {g : Nat} {w W : World} {A : Option Addr} {n : Nat} {xs : List Pl} (h : RdSl 3 RPl w A n xs) (hA : 0 < n → ∀ b o, A = some ⟨b, o, none⟩ → b ≠ g) (hb : Gb g w W) : RdSl 3 RPl W A n xs :=
  ⟨h.len, fun hn => by
    obtain ⟨b, o, e, hlt, hc⟩ := h.cells hn
    exact ⟨b, o, e, Nat.lt_of_lt_of_le hlt hb.size, fun k hk => ⟨(hb.cell (o := o + k * 3) hlt (hA hn b o e)).trans (hc k hk).1, (hb.cell (o := o + k * 3 + 1) hlt (hA hn b o e)).trans (hc k hk).2.1, (hb.cell (o := o + k * 3 + 2) hlt (hA hn b o e)).trans (hc k hk).2.2⟩⟩⟩
theorem blkCode_zero {xs : List Pl} {k : Int} (h : blkCode xs k = 0) : hasFormB xs = true ∧ 1 ≤ k ∧ k ≤ 4 := by
  unfold blkCode at h
  cases hx : hasFormB xs
  · rw [hx] at h; simp at h
  · cases hi : inB k 1 4
    · rw [hx, hi] at h; simp at h
    · exact ⟨rfl, inB_true.1 hi⟩
theorem IndexFuncP0_any (A : Option Addr) (c : Nat) (fv : Value) (w : World) :
    Calls Try.prog 70 #[.slice A 0 c, fv] w fun e w' => e = .returned (.int .i64 (-1)) ∧ w = w' := by
  go_enter Try.func70, Try.ntmps70
  go_wp2
  refine wp_loop_rounds 1 ?_
  rw [rounds_succ]
  go_wp2
  go_ret
  exact ⟨rfl, rfl⟩
theorem DeleteFuncP0_any (A : Option Addr) (c : Nat) (fv : Value) (w : World) :
    Calls Try.prog 54 #[.slice A 0 c, fv] w fun e w' => e = .returned (.slice A 0 c) ∧ w = w' := by
  go_enter Try.func54, Try.ntmps54
  go_wp2_with (go_at_call 70; refine (IndexFuncP0_any _ _ _ _).mono ?_; rintro e _ ⟨rfl, rfl⟩)
  go_ret
  exact ⟨rfl, rfl⟩
def PtsC (w : World) (r : List Pt × Int) (e : Ending) (w' : World) : Prop :=
  ∃ A c, e = .returned (.tuple #[.slice A r.1.length c, .int .i64 r.2]) ∧ w'.ownsRow w.heap.size 49 2 (.slice A r.1.length c) r.1.length (ptCells r.1) ∧ Below w.heap.size w w'
end Go.Proofs.Ytkppijcjmhkkkaa
/- Walks: PartialBlocks of the reference. -/




namespace Go.Proofs.Ytkppijcjmhkkkaa
open Go.RowKit Go.Shelf
attribute [local go_sem] BelowBy.cell BelowBy.cell_drew stillUpon givesUpon

theorem Gb.app {g : Nat} {w W W' : World} {row : Option Nat} (h : Gb g w W) (hg : W.grownBy W' row) (hr : ∀ g', row = some g' → g' = g ∨ w.heap.size ≤ g') : Gb g w W' :=
  ⟨hg.os.trans h.os, hg.tape.trans h.tape, hg.output.trans h.output, Nat.le_trans h.size hg.size, fun k hk hne => (hg.block k (Nat.lt_of_lt_of_le hk h.size) (fun e => by
    rcases hr k e.symm with rfl | h2
    · exact hne rfl
    · omega)).trans (h.block k hk hne)⟩
theorem RdSl.gbT {g : Nat} {w W : World} {A : Option Addr} {n : Nat} {ps : List Pt} (h : RdSl 2 RPt w A n ps) (hA : 0 < n → ∀ b o, A = some ⟨b, o, none⟩ → b ≠ g) (hb : Gb g w W) : RdSl 2 RPt W A n ps :=
  ⟨h.len, fun hn => by
    obtain ⟨b, o, e, hlt, hc⟩ := h.cells hn
    exact ⟨b, o, e, Nat.lt_of_lt_of_le hlt hb.size, fun k hk => ⟨(hb.cell (o := o + k * 2) hlt (hA hn b o e)).trans (hc k hk).1, (hb.cell (o := o + k * 2 + 1) hlt (hA hn b o e)).trans (hc k hk).2⟩⟩⟩
end Go.Proofs.Ytkppijcjmhkkkaa
/- Walks: DecodeBlocks of the program. -/




namespace Go.Proofs.Ytkppijcjmhkkkaa
open Go.RowKit Go.Shelf
attribute [local go_sem] BelowBy.cell BelowBy.cell_drew stillUpon givesUpon

/-- the complete of the first j blocks -/
noncomputable def decN (xs : List Pl) (k : Nat) (B : List Pt) (j : Nat) : List Pl := ((B.take j).filter (delC xs k)).map fun b => ⟨b.x, b.y, compI xs k b⟩
noncomputable def decB (xs : List Pl) (k : Nat) : List Pl := decN xs k (blocksP k xs) (blocksP k xs).length
noncomputable def decR (xs : List Pl) (k : Int) : List Pl × Int := if blkCode xs k = 0 then (decB xs k.toNat, 0) else ([], blkCode xs k)
theorem decN_len (xs : List Pl) (k : Nat) (B : List Pt) (j : Nat) : (decN xs k B j).length ≤ j := by
  unfold decN; rw [List.length_map]
  exact Nat.le_trans (List.length_filter_le _ _) (List.length_take_le _ _)
theorem decN_yes {xs : List Pl} {k : Nat} {B : List Pt} {j : Nat} {e : Pt} {r : Int} (he : B[j]? = some e) (hr : compI xs k ⟨e.x, e.y⟩ = r) (h : 0 ≤ r) : decN xs k B (j + 1) = decN xs k B j ++ [⟨e.x, e.y, r⟩] := by
  have hd : delC xs k e = true := by unfold delC; rw [decide_eq_true_eq]; show 0 ≤ compI xs k ⟨e.x, e.y⟩; omega
  unfold decN
  rw [List.take_add_one, he, List.filter_append, List.map_append]
  simp only [Option.toList_some, List.filter_cons, hd, List.filter_nil, if_true, List.map_cons, List.map_nil]
  rw [← hr]
theorem decN_no {xs : List Pl} {k : Nat} {B : List Pt} {j : Nat} {e : Pt} {r : Int} (he : B[j]? = some e) (hr : compI xs k ⟨e.x, e.y⟩ = r) (h : r < 0) : decN xs k B (j + 1) = decN xs k B j := by
  have hd : delC xs k e = false := by unfold delC; rw [decide_eq_false_iff_not]; show ¬ 0 ≤ compI xs k ⟨e.x, e.y⟩; omega
  unfold decN
  rw [List.take_add_one, he, List.filter_append, List.map_append]
  simp [List.filter_cons, hd]
theorem decR_len (xs : List Pl) (k : Int) : (decR xs k).1.length ≤ 500 := by
  unfold decR
  by_cases h : blkCode xs k = 0
  · rw [if_pos h]
    exact Nat.le_trans (decN_len _ _ _ _) (blocksP_len (blkCode_zero h).1 _)
  · rw [if_neg h]; simp
end Go.Proofs.Ytkppijcjmhkkkaa
