/- Walks: the harness' copies. -/
import Derived.Test.YtkfjojpohcieeaaW1
import Derived.Test.YtkfjojpohcieeaaBase2
namespace Go.Proofs.Ytkfjojpohcieeaa
open Go.RowKit
set_option linter.unusedSimpArgs false
set_option linter.unusedVariables false
attribute [local go_sem] BelowBy.cell BelowBy.cell_drew stillUpon givesUpon

theorem toPoint_any (x y : Int) (w : World) :
    Calls Try.prog 27 #[.agg #[.int .i64 x, .int .i64 y]] w fun e w' => e = .returned (.agg #[.int .i64 x, .int .i64 y]) ∧ Below w.heap.size w w' := by
  go_enter Try.func27, Try.ntmps27
  go_wp2
  refine bodyPost_ret (v := .agg #[.int .i64 x, .int .i64 y]) (by simp only [results, Try.results27]; go_simp) rfl ?_
  refine ⟨rfl, ?_⟩
  exact bel_

theorem toPlaced_any (x y t : Int) (w : World) :
    Calls Try.prog 63 #[.agg #[.int .i64 x, .int .i64 y, .int .i64 t]] w fun e w' => e = .returned (.agg #[.int .i64 x, .int .i64 y, .int .i64 t]) ∧ Below w.heap.size w w' := by
  
  go_enter Try.func63, Try.ntmps63
  go_wp2_with (go_at_call 27; refine (toPoint_any _ _ _).mono ?_; rintro e w1 ⟨rfl, hb1⟩; obtain ⟨chb1, fhb1, shb1, thb1⟩ := bcell hb1; (try have bhb10 := shb1 (w.heap.size) (by go_simp)); (try have bhb11 := shb1 (w.heap.size + 1) (by go_simp)); (try have bhb12 := shb1 (w.heap.size + 1 + 1) (by go_simp)))
  refine bodyPost_ret (v := .agg #[.int .i64 x, .int .i64 y, .int .i64 t]) (by simp only [results, Try.results63]; go_simp) rfl ?_
  refine ⟨rfl, ?_⟩
  exact bel_
theorem infoI : (Try.prog.info? 2).map (fun i => (i.zero, i.size, i.bytes)) = some (some (.int .i64 0), 1, 8) := by kernel_rfl
theorem infoPl : (Try.prog.info? 81).map (fun i => (i.zero, i.size, i.bytes)) = some (some (.agg #[.int .i64 0, .int .i64 0, .int .i64 0]), 3, 24) := by kernel_rfl

set_option maxHeartbeats 2000000 in
theorem toPlacedS_any (A : Option Addr) (n c : Nat) (xs : List Pl) (w : World) (h : RdSl 3 RPl w A n xs) (hn : n ≤ 1073741824) :
    Calls Try.prog 34 #[.slice A n c] w (ResSl 81 3 RPl w n xs) := by
  have hmk := fun W => run_makeN (P := Try.prog) 38 81 _ 3 24 Try.underlying38 infoPl n (by omega) (by omega) W
  go_enter Try.func34, Try.ntmps34
  go_wp2
  go_loopg [4] n (fun g i wr => ∃ (k : Nat) (f : Nat → Value), k + g = n ∧ i = .int .i64 k ∧ Below w.heap.size w wr ∧ w.heap.size < wr.heap.size ∧ wr.rowIs w.heap.size 81 (n * 3) f ∧ (∀ j e, j < k → xs[j]? = some e → f (j * 3) = .int .i64 e.x ∧ f (j * 3 + 1) = .int .i64 e.y ∧ f (j * 3 + 2) = .int .i64 e.t))
  case atStart => exact ⟨0, _, by omega, rfl, bl_al (bl_refl _) _, by simp, rowIs_make _ _ _ _, fun j e hj => by omega⟩
  case round =>
    obtain ⟨k, f, hk, rfl, hbw, hsz, hrow, hf⟩ := hrel
    have r1 := h.below RPl.stable hbw
    by_cases hlt : k < n
    · obtain ⟨b, o, rfl, hb, hc⟩ := r1.ptr (by omega)
      obtain ⟨e, he⟩ := h.get hlt
      have HE := Lib.hid he
      have HF := Lib.hid hf
      obtain ⟨c1, c1b, c1c⟩ := hc k e he
      clear hc he r1 hf
      go_wp2_with (go_at_call 63; refine (toPlaced_any _ _ _ _).mono ?_; rintro e' w1 ⟨rfl, hb1⟩; have hrow1 := hrow.of_block (hb1.block _ hrow.lt); have hc0 := hrow1.cell (i := k * 3) (by omega); have hf0 := hrow1.frozen (k * 3); have hc1 := hrow1.cell (i := k * 3 + 1) (by omega); have hf1 := hrow1.frozen (k * 3 + 1); have hc2 := hrow1.cell (i := k * 3 + 2) (by omega); have hf2 := hrow1.frozen (k * 3 + 2))
      go_roundg (n - (k + 1))
      case measure => omega
      case rel => exact ⟨k + 1, _, by omega, by go_num, (by exact bel_), (by have := hb1.size; simp; omega), ((hrow1.set (k * 3) _).set (k * 3 + 1) _).set (k * 3 + 2) _, fun j e' hj he' => by
        have HF := HF.out
        rcases Nat.lt_succ_iff_lt_or_eq.1 hj with hj | rfl
        · have h3 := HF j e' hj he'
          rw [if_neg (by omega), if_neg (by omega), if_neg (by omega), if_neg (by omega), if_neg (by omega), if_neg (by omega), if_neg (by omega), if_neg (by omega), if_neg (by omega)]; exact h3
        · obtain rfl := Option.some.inj (HE.out.symm.trans he')
          rw [if_neg (by omega), if_neg (by omega), if_pos rfl, if_neg (by omega), if_pos rfl, if_pos rfl]; exact ⟨rfl, rfl, rfl⟩⟩
    · obtain rfl : k = n := by omega
      go_wp2
      go_ret
      refine ⟨_, rfl, ⟨h.len, _, f, rfl, Nat.le_refl _, hrow, fun j e he => ?_⟩, hbw⟩
      have hj : j < k := by rw [← h.len]; exact (List.getElem?_eq_some_iff.1 he).1
      have h3 := hf j e hj he
      exact ⟨(hrow.cell (by omega)).trans (by rw [h3.1]), (hrow.cell (by omega)).trans (by rw [h3.2.1]), (hrow.cell (by omega)).trans (by rw [h3.2.2])⟩

def ResAs (T : Nat) (w : World) (n : Nat) (xs : List Pl) (e : Ending) (w' : World) : Prop :=
  ∃ A, e = .returned (.agg #[.slice A n n]) ∧ OwSl T 3 RPl w' w.heap.size A n xs ∧ Below w.heap.size w w'
theorem toAssembly_any (A : Option Addr) (n c : Nat) (xs : List Pl) (w : World) (h : RdSl 3 RPl w A n xs) (hn : n ≤ 1073741824) :
    Calls Try.prog 17 #[.agg #[.slice A n c]] w (ResAs 81 w n xs) := by
  go_enter Try.func17, Try.ntmps17
  go_wp2_with (go_at_call 34; refine (toPlacedS_any _ _ _ xs _ (h.below RPl.stable (by exact bel_)) hn).mono ?_; rintro e w1 ⟨A', rfl, how, hb1⟩; obtain ⟨chb1, fhb1, shb1, thb1⟩ := bcell hb1; (have b0 := shb1 w.heap.size (by go_simp)); (have b1 := shb1 (w.heap.size + 1) (by go_simp)); (have b2 := shb1 (w.heap.size + 1 + 1) (by go_simp)))
  refine bodyPost_ret (v := .agg #[.slice A' n n]) (by simp only [results, Try.results17]; go_simp) rfl ?_
  refine ⟨A', rfl, ((how.set (RPl.stableAt _) ?_ _).set (RPl.stableAt _) ?_ _).weaken ?_, ?_⟩
  all_goals exact bel_
end Go.Proofs.Ytkfjojpohcieeaa
