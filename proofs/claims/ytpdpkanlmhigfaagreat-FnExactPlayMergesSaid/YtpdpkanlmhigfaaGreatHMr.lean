/- Walks: rows of merges in the harness: copy, count, comparison. -/
import Derived.Test.YtpdpkanlmhigfaaGreatHTo
import Derived.Test.YtpdpkanlmhigfaaGreatHSz
import Derived.Test.YtpdpkanlmhigfaaGreatHEq
import Derived.Test.YtpdpkanlmhigfaaGreatBase2
namespace Go.Proofs.YtpdpkanlmhigfaaGreat
open Go.RowKit
set_option linter.unusedSimpArgs false
set_option linter.unusedVariables false
attribute [local go_sem] BelowBy.cell BelowBy.cell_drew stillUpon givesUpon

structure Mr where
  a : Int
  b : Int
  x : Int
  y : Int
def RMr (w : World) (b o : Nat) (e : Mr) : Prop := w.cell? ⟨b, o, none⟩ = some (.int .i64 e.a) ∧ w.cell? ⟨b, o + 1, none⟩ = some (.int .i64 e.b) ∧ w.cell? ⟨b, o + 2, none⟩ = some (.int .i64 e.x) ∧ w.cell? ⟨b, o + 3, none⟩ = some (.int .i64 e.y)
theorem RMr.stable : Stable RMr := fun _ _ _ _ _ h hb hw => ⟨(hw.cell (by exact hb)).trans h.1, (hw.cell (by exact hb)).trans h.2.1, (hw.cell (by exact hb)).trans h.2.2.1, (hw.cell (by exact hb)).trans h.2.2.2⟩
theorem RMr.stableAt (lo : Nat) : StableAt lo RMr := fun w _ b o _ h hlo hb hk =>
  ⟨(World.cell?_of_block (w := w) (a := ⟨b, o, none⟩) (hk b hlo hb)).trans h.1, (World.cell?_of_block (w := w) (a := ⟨b, o + 1, none⟩) (hk b hlo hb)).trans h.2.1, (World.cell?_of_block (w := w) (a := ⟨b, o + 2, none⟩) (hk b hlo hb)).trans h.2.2.1, (World.cell?_of_block (w := w) (a := ⟨b, o + 3, none⟩) (hk b hlo hb)).trans h.2.2.2⟩
theorem infoMr : (Tryz.prog.info? 58).map (fun i => (i.zero, i.size, i.bytes)) = some (some (.agg #[.int .i64 0, .int .i64 0, .int .i64 0, .int .i64 0]), 4, 32) := by kernel_rfl
theorem toMerge_any (a b x y : Int) (w : World) :
    Calls Tryz.prog 27 #[.agg #[.int .i64 a, .int .i64 b, .int .i64 x, .int .i64 y]] w fun e w' => e = .returned (.agg #[.int .i64 a, .int .i64 b, .int .i64 x, .int .i64 y]) ∧ Below w.heap.size w w' := by
  
  go_enter Tryz.func27, Tryz.ntmps27
  go_wp2_with (go_at_call 53; refine (toPoint_any _ _ _).mono ?_; rintro e w1 ⟨rfl, hb1⟩; obtain ⟨chb1, fhb1, shb1, thb1⟩ := bcell hb1; (try have bhb10 := shb1 (w.heap.size) (by go_simp)); (try have bhb11 := shb1 (w.heap.size + 1) (by go_simp)); (try have bhb12 := shb1 (w.heap.size + 1 + 1) (by go_simp)))
  refine bodyPost_ret (v := .agg #[.int .i64 a, .int .i64 b, .int .i64 x, .int .i64 y]) (by simp only [results, Tryz.results27]; go_simp) rfl ?_
  refine ⟨rfl, ?_⟩
  exact bel_

set_option maxHeartbeats 4000000 in
theorem toMergeS_any (A : Option Addr) (n c : Nat) (xs : List Mr) (w : World) (h : RdSl 4 RMr w A n xs) (hn : n ≤ 1073741824) :
    Calls Tryz.prog 8 #[.slice A n c] w (ResSl 58 4 RMr w n xs) := by
  have hmk := fun W => run_makeN (P := Tryz.prog) 39 58 _ 4 32 Tryz.underlying39 infoMr n (by omega) (by omega) W
  go_enter Tryz.func8, Tryz.ntmps8
  go_wp2
  go_loopg [4] n (fun g i wr => ∃ (k : Nat) (f : Nat → Value), k + g = n ∧ i = .int .i64 k ∧ Below w.heap.size w wr ∧ w.heap.size < wr.heap.size ∧ wr.rowIs w.heap.size 58 (n * 4) f ∧ Hid (∀ j e, j < k → xs[j]? = some e → f (j * 4) = .int .i64 e.a ∧ f (j * 4 + 1) = .int .i64 e.b ∧ f (j * 4 + 2) = .int .i64 e.x ∧ f (j * 4 + 3) = .int .i64 e.y))
  case atStart => exact ⟨0, _, by omega, rfl, bl_al (bl_refl _) _, by simp, rowIs_make _ _ _ _, Lib.hid (fun j e hj => by omega)⟩
  case round =>
    obtain ⟨k, f, hk, rfl, hbw, hsz, hrow, HF⟩ := hrel
    have r1 := h.below RMr.stable hbw
    by_cases hlt : k < n
    · obtain ⟨b, o, rfl, hb, hc⟩ := r1.ptr (by omega)
      obtain ⟨e, he⟩ := h.get hlt
      have HE := Lib.hid he
      obtain ⟨c1, c1b, c1c, c1d⟩ := hc k e he
      clear hc he r1
      go_wp2_with (go_at_call 27; refine (toMerge_any _ _ _ _ _).mono ?_; rintro e' w1 ⟨rfl, hb1⟩; have hrow1 := hrow.of_block (hb1.block _ hrow.lt); have hc0 := hrow1.cell (i := k * 4) (by omega); have hf0 := hrow1.frozen (k * 4); have hc1 := hrow1.cell (i := k * 4 + 1) (by omega); have hf1 := hrow1.frozen (k * 4 + 1); have hc2 := hrow1.cell (i := k * 4 + 2) (by omega); have hf2 := hrow1.frozen (k * 4 + 2); have hc3 := hrow1.cell (i := k * 4 + 3) (by omega); have hf3 := hrow1.frozen (k * 4 + 3))
      go_roundg (n - (k + 1))
      case measure => omega
      case rel => exact ⟨k + 1, _, by omega, by go_num, (by exact bel_), (by have := hb1.size; simp; omega), (((hrow1.set (k * 4) _).set (k * 4 + 1) _).set (k * 4 + 2) _).set (k * 4 + 3) _, Lib.hid (fun j e' hj he' => by
        have HF := HF.out
        rcases Nat.lt_succ_iff_lt_or_eq.1 hj with hj | rfl
        · have h3 := HF j e' hj he'
          refine ⟨?_, ?_, ?_, ?_⟩
          · rw [if_neg (by omega), if_neg (by omega), if_neg (by omega), if_neg (by omega)]; exact h3.1
          · rw [if_neg (by omega), if_neg (by omega), if_neg (by omega), if_neg (by omega)]; exact h3.2.1
          · rw [if_neg (by omega), if_neg (by omega), if_neg (by omega), if_neg (by omega)]; exact h3.2.2.1
          · rw [if_neg (by omega), if_neg (by omega), if_neg (by omega), if_neg (by omega)]; exact h3.2.2.2
        · obtain rfl := Option.some.inj (HE.out.symm.trans he')
          refine ⟨?_, ?_, ?_, ?_⟩
          · rw [if_neg (by omega), if_neg (by omega), if_neg (by omega), if_pos rfl]
          · rw [if_neg (by omega), if_neg (by omega), if_pos rfl]
          · rw [if_neg (by omega), if_pos rfl]
          · rw [if_pos rfl])⟩
    · obtain rfl : k = n := by omega
      go_wp2
      go_ret
      refine ⟨_, rfl, ⟨h.len, _, f, rfl, Nat.le_refl _, hrow, fun j e he => ?_⟩, hbw⟩
      have hj : j < k := by rw [← h.len]; exact (List.getElem?_eq_some_iff.1 he).1
      have h3 := HF.out j e hj he
      exact ⟨(hrow.cell (by omega)).trans (by rw [h3.1]), (hrow.cell (by omega)).trans (by rw [h3.2.1]), (hrow.cell (by omega)).trans (by rw [h3.2.2.1]), (hrow.cell (by omega)).trans (by rw [h3.2.2.2])⟩
theorem szMergeS_any (A : Option Addr) (n c : Nat) (left : Int) (w : World) (h0 : 0 ≤ left) (h1 : left ≤ 1048576) (hs : n ≤ 9223372036854775807) :
    Calls Tryz.prog 5 #[.slice A n c, .int .i64 left] w (SzRes w left ((n : Int) ≤ left)) := by
  by_cases h : (n : Int) ≤ left
  · go_enter Tryz.func5, Tryz.ntmps5
    go_wp2
    go_ret
    exact ⟨_, rfl, .inr ⟨by omega, by omega, h⟩, bl_refl _⟩
  · go_enter Tryz.func5, Tryz.ntmps5
    go_wp2
    go_ret
    exact ⟨_, rfl, .inl rfl, bl_refl _⟩
theorem eqMerge_same (a b x y : Int) (w : World) :
    Calls Tryz.prog 37 #[.agg #[.int .i64 a, .int .i64 b, .int .i64 x, .int .i64 y], .agg #[.int .i64 a, .int .i64 b, .int .i64 x, .int .i64 y]] w fun e w' => e = .returned (.bool true) ∧ Below w.heap.size w w' := by
  
  go_enter Tryz.func37, Tryz.ntmps37
  go_wp2_with (go_at_call 69; refine (eqPoint_same _ _ _).mono ?_; rintro e w1 ⟨rfl, hb1⟩; obtain ⟨chb1, fhb1, shb1, thb1⟩ := bcell hb1; (try have bhb10 := shb1 (w.heap.size) (by go_simp)); (try have bhb11 := shb1 (w.heap.size + 1) (by go_simp)))
  go_ret
  refine ⟨rfl, ?_⟩
  exact bel_

set_option maxHeartbeats 1000000 in
theorem eqMergeS_same (A B : Option Addr) (n c d : Nat) (xs : List Mr) (w : World) (h1 : RdSl 4 RMr w A n xs) (h2 : RdSl 4 RMr w B n xs) (hn : n ≤ 1073741824) :
    Calls Tryz.prog 12 #[.slice A n c, .slice B n d] w fun e w' => e = .returned (.bool true) ∧ Below w.heap.size w w' := by
  
  go_enter Tryz.func12, Tryz.ntmps12
  go_wp2
  go_loopg [5] n (fun g i wr => ∃ k : Nat, k + g = n ∧ i = .int .i64 k ∧ Below w.heap.size w wr)
  case atStart => exact ⟨0, by omega, rfl, Below.refl _ _⟩
  case round =>
    obtain ⟨k, hk, rfl, hbw⟩ := hrel
    have r1 := h1.below RMr.stable hbw
    have r2 := h2.below RMr.stable hbw
    by_cases hlt : k < n
    · obtain ⟨b, o, rfl, hb, hc⟩ := r1.ptr (by omega)
      obtain ⟨b2, o2, rfl, hb2, hc2⟩ := r2.ptr (by omega)
      obtain ⟨e, he⟩ := h1.get hlt
      obtain ⟨c1, c1b, c1c, c1d⟩ := hc k e he
      obtain ⟨c2, c2b, c2c, c2d⟩ := hc2 k e he
      clear hc hc2 he r1 r2
      go_wp2
      refine wp_region_ord [(0, .q), (1, .q), (2, .q), (3, .q), (4, .q), (5, .q), (6, .q), (7, .q), (8, .g), (9, .q)] (by kernel_rfl) (by kernel_rfl) ?_
      simp only [pick, List.filterMap_cons, List.filterMap_nil, List.getElem?_toArray, List.getElem?_cons_zero, List.getElem?_cons_succ, Option.map_some]
      repeat (first
        | ((with_reducible refine wpD_p (fun K hK => ?_)); go_simp; refine hK _ ?_; clear hK K)
        | ((with_reducible refine wpD_q (fun K hK => ?_)); go_simp; (first | refine hK _ ?_ | (go_bits; refine hK _ ?_) | (go_bits; go_simp; refine hK _ ?_)); clear hK K)
        | ((with_reducible refine wpD_g (fun K hK => ?_)); go_simp; refine hK _ _ ?_; clear hK K)
        | ((with_reducible refine wpD_g (fun K hK => ?_)); go_simp; refine ⟨Grew.of_alloc _, hK _ _ ?_⟩; clear hK K)
        | ((with_reducible refine wpD_g (fun K hK => ?_)); go_simp; go_at_call 37; refine (eqMerge_same _ _ _ _ _).mono ?_; rintro e w1 ⟨rfl, hb1⟩; refine ⟨_, rfl, hb1, hK _ _ ?_⟩; clear hK K; obtain ⟨chb1, fhb1, shb1, thb1⟩ := bcell hb1; (try have bhb10 := shb1 (b) (by go_simp)); (try have bhb11 := shb1 (b2) (by go_simp))))
      with_reducible refine wpD_nil ?_
      go_wp2
      go_roundg (n - (k + 1))
      case measure => omega
      case rel => exact ⟨k + 1, by omega, by go_num, (by exact bel_)⟩
    · obtain rfl : k = n := by omega
      go_wp2
      go_ret
      exact ⟨rfl, hbw⟩
end Go.Proofs.YtpdpkanlmhigfaaGreat
