/- Walks: the harness at machines and configurations: copies, counts, comparisons, marks (printed by gen_hmc.py). -/
import Derived.Test.YtkiamhpapkgboaaDoorHTo
import Derived.Test.YtkiamhpapkgboaaDoorKE
import Derived.Test.YtkiamhpapkgboaaDoorKH
import Derived.Test.YtkiamhpapkgboaaDoorKQ
namespace Go.Proofs.YtkiamhpapkgboaaDoor
open Go.RowKit
set_option linter.unusedSimpArgs false
set_option linter.unusedVariables false
attribute [local go_sem] BelowBy.cell BelowBy.cell_drew stillUpon givesUpon

theorem toMove_any (s r u d n : Int) (w : World) :
    Calls Tryd.prog 46 #[.agg #[.int .i64 s, .int .i64 r, .int .i64 u, .int .i64 d, .int .i64 n]] w fun e w' => e = .returned (.agg #[.int .i64 s, .int .i64 r, .int .i64 u, .int .i64 d, .int .i64 n]) ∧ Below w.heap.size w w' := by
  go_enter Tryd.func46, Tryd.ntmps46
  go_wp2
  refine bodyPost_ret (v := .agg #[.int .i64 s, .int .i64 r, .int .i64 u, .int .i64 d, .int .i64 n]) (by simp only [results, Tryd.results46]; go_simp) rfl ?_
  refine ⟨rfl, ?_⟩
  exact bel_
theorem eqMove_same (s r u d n : Int) (w : World) :
    Calls Tryd.prog 58 #[.agg #[.int .i64 s, .int .i64 r, .int .i64 u, .int .i64 d, .int .i64 n], .agg #[.int .i64 s, .int .i64 r, .int .i64 u, .int .i64 d, .int .i64 n]] w fun e w' => e = .returned (.bool true) ∧ Below w.heap.size w w' := by
  go_enter Tryd.func58, Tryd.ntmps58
  go_wp2
  go_ret
  refine ⟨rfl, ?_⟩
  exact bel_
theorem infoMvm : (Tryd.prog.info? 82).map (fun i => (i.zero, i.size, i.bytes)) = some (some (.agg #[.int .i64 0, .int .i64 0, .int .i64 0, .int .i64 0, .int .i64 0]), 5, 40) := by kernel_rfl

set_option maxRecDepth 100000 in
set_option maxHeartbeats 4000000 in
theorem toMoveS_any (A : Option Addr) (n c : Nat) (xs : List Mvm) (w : World) (h : RdSl 5 RMv w A n xs) (hn : n ≤ 1073741824) :
    Calls Tryd.prog 27 #[.slice A n c] w (ResSl 82 5 RMv w n xs) := by
  have hmk := fun W => run_makeN (P := Tryd.prog) 41 82 _ 5 40 Tryd.underlying41 infoMvm n (by omega) (by omega) W
  go_enter Tryd.func27, Tryd.ntmps27
  go_wp2
  go_loopg [4] n (fun g i wr => ∃ (k : Nat) (f : Nat → Value), k + g = n ∧ i = .int .i64 k ∧ Below w.heap.size w wr ∧ w.heap.size < wr.heap.size ∧ wr.rowIs w.heap.size 82 (n * 5) f ∧ (∀ j e, j < k → xs[j]? = some e → f (j * 5) = .int .i64 e.s ∧ f (j * 5 + 1) = .int .i64 e.r ∧ f (j * 5 + 2) = .int .i64 e.w ∧ f (j * 5 + 3) = .int .i64 e.d ∧ f (j * 5 + 4) = .int .i64 e.n))
  case atStart => exact ⟨0, _, by omega, rfl, bl_al (bl_refl _) _, by simp, rowIs_make _ _ _ _, fun j e hj => by omega⟩
  case round =>
    obtain ⟨k, f, hk, rfl, hbw, hsz, hrow, hf⟩ := hrel
    have r1 := h.below RMv.stable hbw
    by_cases hlt : k < n
    · obtain ⟨b, o, rfl, hb, hc⟩ := r1.ptr (by omega)
      obtain ⟨e, he⟩ := h.get hlt
      have HE := Lib.hid he
      have HF := Lib.hid hf
      obtain ⟨c1, c2, c3, c4, c5⟩ := hc k e he
      clear hc he r1 hf
      go_wp2_with (go_at_call 46; refine (toMove_any _ _ _ _ _ _).mono ?_; rintro e' w1 ⟨rfl, hb1⟩; have hrow1 := hrow.of_block (hb1.block _ hrow.lt); have hc0 := hrow1.cell (i := k * 5) (by omega); have hf0 := hrow1.frozen (k * 5); have hc1 := hrow1.cell (i := k * 5 + 1) (by omega); have hf1 := hrow1.frozen (k * 5 + 1); have hc2 := hrow1.cell (i := k * 5 + 2) (by omega); have hf2 := hrow1.frozen (k * 5 + 2); have hc3 := hrow1.cell (i := k * 5 + 3) (by omega); have hf3 := hrow1.frozen (k * 5 + 3); have hc4 := hrow1.cell (i := k * 5 + 4) (by omega); have hf4 := hrow1.frozen (k * 5 + 4))
      go_roundg (n - (k + 1))
      case measure => omega
      case rel => exact ⟨k + 1, _, by omega, by go_num, (by exact bel_), (by have := hb1.size; simp; omega), (((((hrow1.set (k * 5) _).set (k * 5 + 1) _).set (k * 5 + 2) _).set (k * 5 + 3) _).set (k * 5 + 4) _), fun j e' hj he' => by
        have HF := HF.out
        rcases Nat.lt_succ_iff_lt_or_eq.1 hj with hj | rfl
        · have h3 := HF j e' hj he'
          refine ⟨?_, ?_, ?_, ?_, ?_⟩
          · rw [if_neg (by omega), if_neg (by omega), if_neg (by omega), if_neg (by omega), if_neg (by omega)]; exact h3.1
          · rw [if_neg (by omega), if_neg (by omega), if_neg (by omega), if_neg (by omega), if_neg (by omega)]; exact h3.2.1
          · rw [if_neg (by omega), if_neg (by omega), if_neg (by omega), if_neg (by omega), if_neg (by omega)]; exact h3.2.2.1
          · rw [if_neg (by omega), if_neg (by omega), if_neg (by omega), if_neg (by omega), if_neg (by omega)]; exact h3.2.2.2.1
          · rw [if_neg (by omega), if_neg (by omega), if_neg (by omega), if_neg (by omega), if_neg (by omega)]; exact h3.2.2.2.2
        · obtain rfl := Option.some.inj (HE.out.symm.trans he')
          refine ⟨?_, ?_, ?_, ?_, ?_⟩
          · rw [if_neg (by omega), if_neg (by omega), if_neg (by omega), if_neg (by omega), if_pos (by omega)]
          · rw [if_neg (by omega), if_neg (by omega), if_neg (by omega), if_pos (by omega)]
          · rw [if_neg (by omega), if_neg (by omega), if_pos (by omega)]
          · rw [if_neg (by omega), if_pos (by omega)]
          · rw [if_pos (by omega)]⟩
    · obtain rfl : k = n := by omega
      go_wp2
      go_ret
      refine ⟨_, rfl, ⟨h.len, _, f, rfl, Nat.le_refl _, hrow, fun j e he => ?_⟩, hbw⟩
      have hj : j < k := by rw [← h.len]; exact (List.getElem?_eq_some_iff.1 he).1
      have h3 := hf j e hj he
      exact ⟨(hrow.cell (by omega)).trans (by rw [h3.1]), (hrow.cell (by omega)).trans (by rw [h3.2.1]), (hrow.cell (by omega)).trans (by rw [h3.2.2.1]), (hrow.cell (by omega)).trans (by rw [h3.2.2.2.1]), (hrow.cell (by omega)).trans (by rw [h3.2.2.2.2])⟩
theorem szMoveS_any (A : Option Addr) (n c : Nat) (left : Int) (w : World) (h0 : 0 ≤ left) (h1 : left ≤ 1048576) (hs : n ≤ 9223372036854775807) :
    Calls Tryd.prog 17 #[.slice A n c, .int .i64 left] w (SzRes w left ((n : Int) ≤ left)) := by
  by_cases h : (n : Int) ≤ left
  · go_enter Tryd.func17, Tryd.ntmps17
    go_wp2
    go_ret
    exact ⟨_, rfl, .inr ⟨by omega, by omega, h⟩, bl_refl _⟩
  · go_enter Tryd.func17, Tryd.ntmps17
    go_wp2
    go_ret
    exact ⟨_, rfl, .inl rfl, bl_refl _⟩
theorem szMachine_any (A : Option Addr) (n c : Nat) (Q S : Int) (left : Int) (w : World) (h0 : 0 ≤ left) (h1 : left ≤ 1048576) (hs : n ≤ 9223372036854775807) :
    Calls Tryd.prog 4 #[.agg #[.int .i64 Q, .int .i64 S, .slice A n c], .int .i64 left] w (SzRes w left ((n : Int) ≤ left)) := by
  go_enter Tryd.func4, Tryd.ntmps4
  go_wp2_with (go_at_call 17; refine (szMoveS_any _ _ _ _ _ h0 h1 hs).mono ?_; rintro e w1 ⟨r, rfl, (rfl | ⟨hr0, hr1, hr2⟩), hb1⟩)
  · go_ret
    exact ⟨_, rfl, .inl rfl, bl_tr (bl_al (bl_refl _) _) hb1⟩
  · go_wp2
    go_ret
    exact ⟨_, rfl, .inr ⟨hr0, hr1, hr2⟩, bl_tr (bl_al (bl_refl _) _) hb1⟩
theorem szConfig_any (A : Option Addr) (n c : Nat) (h s : Int) (left : Int) (w : World) (h0 : 0 ≤ left) (h1 : left ≤ 1048576) (hs : n ≤ 9223372036854775807) :
    Calls Tryd.prog 5 #[.agg #[.slice A n c, .int .i64 h, .int .i64 s], .int .i64 left] w (SzRes w left ((n : Int) ≤ left)) := by
  go_enter Tryd.func5, Tryd.ntmps5
  go_wp2_with (go_at_call 18; refine (szInt64S_any _ _ _ _ _ h0 h1 hs).mono ?_; rintro e w1 ⟨r, rfl, (rfl | ⟨hr0, hr1, hr2⟩), hb1⟩)
  · go_ret
    exact ⟨_, rfl, .inl rfl, bl_tr (bl_al (bl_refl _) _) hb1⟩
  · go_wp2
    go_ret
    exact ⟨_, rfl, .inr ⟨hr0, hr1, hr2⟩, bl_tr (bl_al (bl_refl _) _) hb1⟩
def ResMc (T : Nat) (w : World) (Q S : Int) (n : Nat) (xs : List Mvm) (e : Ending) (w' : World) : Prop :=
  ∃ A, e = .returned (.agg #[.int .i64 Q, .int .i64 S, .slice A n n]) ∧ OwSl T 5 RMv w' w.heap.size A n xs ∧ Below w.heap.size w w'
def ResCf (T : Nat) (w : World) (h s : Int) (n : Nat) (xs : List Int) (e : Ending) (w' : World) : Prop :=
  ∃ A, e = .returned (.agg #[.slice A n n, .int .i64 h, .int .i64 s]) ∧ OwSl T 1 RInt w' w.heap.size A n xs ∧ Below w.heap.size w w'
theorem RMv.stableAt (lo : Nat) : StableAt lo RMv := fun w _ b o _ h hlo hb hk =>
  ⟨(World.cell?_of_block (w := w) (a := ⟨b, o, none⟩) (hk b hlo hb)).trans h.1, (World.cell?_of_block (w := w) (a := ⟨b, o + 1, none⟩) (hk b hlo hb)).trans h.2.1,
    (World.cell?_of_block (w := w) (a := ⟨b, o + 2, none⟩) (hk b hlo hb)).trans h.2.2.1, (World.cell?_of_block (w := w) (a := ⟨b, o + 3, none⟩) (hk b hlo hb)).trans h.2.2.2.1,
    (World.cell?_of_block (w := w) (a := ⟨b, o + 4, none⟩) (hk b hlo hb)).trans h.2.2.2.2⟩

set_option maxRecDepth 100000 in
set_option maxHeartbeats 4000000 in
theorem toMachine_any (A : Option Addr) (n c : Nat) (Q S : Int) (xs : List Mvm) (w : World) (h : RdSl 5 RMv w A n xs) (hn : n ≤ 1073741824) :
    Calls Tryd.prog 7 #[.agg #[.int .i64 Q, .int .i64 S, .slice A n c]] w (ResMc 82 w Q S n xs) := by
  go_enter Tryd.func7, Tryd.ntmps7
  go_wp2_with (go_at_call 27; refine (toMoveS_any _ _ _ xs _ (h.below RMv.stable (by exact bel_)) hn).mono ?_; rintro e w1 ⟨A', rfl, how, hb1⟩; obtain ⟨chb1, fhb1, shb1, thb1⟩ := bcell hb1; (have b0 := shb1 w.heap.size (by go_simp)); (have b1 := shb1 (w.heap.size + 1) (by go_simp)); (have b2 := shb1 (w.heap.size + 1 + 1) (by go_simp)))
  refine bodyPost_ret (v := .agg #[.int .i64 Q, .int .i64 S, .slice A' n n]) (by simp only [results, Tryd.results7]; go_simp) rfl ?_
  refine ⟨A', rfl, ((((how.set (RMv.stableAt _) ?_ _).set (RMv.stableAt _) ?_ _).set (RMv.stableAt _) ?_ _).set (RMv.stableAt _) ?_ _).weaken ?_, ?_⟩
  all_goals exact bel_
set_option maxRecDepth 100000 in
set_option maxHeartbeats 4000000 in
theorem toConfig_any (A : Option Addr) (n c : Nat) (h s : Int) (xs : List Int) (w : World) (hx : RdSl 1 RInt w A n xs) (hn : n ≤ 1073741824) :
    Calls Tryd.prog 8 #[.agg #[.slice A n c, .int .i64 h, .int .i64 s]] w (ResCf 2 w h s n xs) := by
  go_enter Tryd.func8, Tryd.ntmps8
  go_wp2_with (go_at_call 28; refine (toInt64S_any _ _ _ xs _ (hx.below RInt.stable (by exact bel_)) hn).mono ?_; rintro e w1 ⟨A', rfl, how, hb1⟩; obtain ⟨chb1, fhb1, shb1, thb1⟩ := bcell hb1; (have b0 := shb1 w.heap.size (by go_simp)); (have b1 := shb1 (w.heap.size + 1) (by go_simp)); (have b2 := shb1 (w.heap.size + 1 + 1) (by go_simp)))
  refine bodyPost_ret (v := .agg #[.slice A' n n, .int .i64 h, .int .i64 s]) (by simp only [results, Tryd.results8]; go_simp) rfl ?_
  refine ⟨A', rfl, ((((((how.set (RInt.stableAt _) ?_ _).set (RInt.stableAt _) ?_ _).set (RInt.stableAt _) ?_ _).set (RInt.stableAt _) ?_ _).set (RInt.stableAt _) ?_ _).set (RInt.stableAt _) ?_ _).weaken ?_, ?_⟩
  all_goals exact bel_

set_option maxHeartbeats 1000000 in
theorem eqMoveS_same (A B : Option Addr) (n c d : Nat) (xs : List Mvm) (w : World) (h1 : RdSl 5 RMv w A n xs) (h2 : RdSl 5 RMv w B n xs) (hn : n ≤ 1073741824) :
    Calls Tryd.prog 33 #[.slice A n c, .slice B n d] w fun e w' => e = .returned (.bool true) ∧ Below w.heap.size w w' := by
  go_enter Tryd.func33, Tryd.ntmps33
  go_wp2
  go_loopg [5] n (fun g i wr => ∃ k : Nat, k + g = n ∧ i = .int .i64 k ∧ Below w.heap.size w wr)
  case atStart => exact ⟨0, by omega, rfl, Below.refl _ _⟩
  case round =>
    obtain ⟨k, hk, rfl, hbw⟩ := hrel
    have r1 := h1.below RMv.stable hbw
    have r2 := h2.below RMv.stable hbw
    by_cases hlt : k < n
    · obtain ⟨b, o, rfl, hb, hc⟩ := r1.ptr (by omega)
      obtain ⟨b2, o2, rfl, hb2, hc2⟩ := r2.ptr (by omega)
      obtain ⟨e, he⟩ := h1.get hlt
      obtain ⟨p1, p2, p3, p4, p5⟩ := hc k e he
      obtain ⟨q1, q2, q3, q4, q5⟩ := hc2 k e he
      clear hc hc2 he r1 r2
      go_wp2
      refine wp_region_ord [(0, .q), (1, .q), (2, .q), (3, .q), (4, .q), (5, .q), (6, .q), (7, .q), (8, .g), (9, .q)] (by kernel_rfl) (by kernel_rfl) ?_
      simp only [pick, List.filterMap_cons, List.filterMap_nil, List.getElem?_toArray, List.getElem?_cons_zero, List.getElem?_cons_succ, Option.map_some]
      repeat (first
        | ((with_reducible refine wpD_p (fun K hK => ?_)); go_simp; refine hK _ ?_; clear hK K)
        | ((with_reducible refine wpD_q (fun K hK => ?_)); go_simp; (first | refine hK _ ?_ | (go_bits; refine hK _ ?_) | (go_bits; go_simp; refine hK _ ?_)); clear hK K)
        | ((with_reducible refine wpD_g (fun K hK => ?_)); go_simp; refine hK _ _ ?_; clear hK K)
        | ((with_reducible refine wpD_g (fun K hK => ?_)); go_simp; refine ⟨Grew.of_alloc _, hK _ _ ?_⟩; clear hK K)
        | ((with_reducible refine wpD_g (fun K hK => ?_)); go_simp; go_at_call 58; refine (eqMove_same _ _ _ _ _ _).mono ?_; rintro e w1 ⟨rfl, hb1⟩; refine ⟨_, rfl, hb1, hK _ _ ?_⟩; clear hK K; obtain ⟨chb1, fhb1, shb1, thb1⟩ := bcell hb1; (try have bhb10 := shb1 (b) (by go_simp)); (try have bhb11 := shb1 (b2) (by go_simp))))
      with_reducible refine wpD_nil ?_
      go_wp2
      go_roundg (n - (k + 1))
      case measure => omega
      case rel => exact ⟨k + 1, by omega, by go_num, (by exact bel_)⟩
    · obtain rfl : k = n := by omega
      go_wp2
      go_ret
      exact ⟨rfl, hbw⟩

theorem eqMachine_same (A B : Option Addr) (n c d : Nat) (Q S : Int) (xs : List Mvm) (w : World) (h1 : RdSl 5 RMv w A n xs) (h2 : RdSl 5 RMv w B n xs) (hn : n ≤ 1073741824) :
    Calls Tryd.prog 11 #[.agg #[.int .i64 Q, .int .i64 S, .slice A n c], .agg #[.int .i64 Q, .int .i64 S, .slice B n d]] w fun e w' => e = .returned (.bool true) ∧ Below w.heap.size w w' := by
  have hb0 : ∀ o1 o2, Below w.heap.size w ((w.alloc o1).alloc o2) := fun o1 o2 => bl_al (bl_al (bl_refl _) _) _
  go_enter Tryd.func11, Tryd.ntmps11
  go_wp2_with (go_at_call 33; refine (eqMoveS_same _ _ _ _ _ xs _ (h1.below RMv.stable (hb0 _ _)) (h2.below RMv.stable (hb0 _ _)) hn).mono ?_; rintro e w1 ⟨rfl, hb1⟩; obtain ⟨chb1, fhb1, shb1, thb1⟩ := bcell hb1; (try have bhb10 := shb1 (w.heap.size) (by go_simp)); (try have bhb11 := shb1 (w.heap.size + 1) (by go_simp)))
  go_ret
  refine ⟨rfl, ?_⟩
  exact bel_
theorem eqConfig_same (A B : Option Addr) (n c d : Nat) (h s : Int) (xs : List Int) (w : World) (h1 : RdSl 1 RInt w A n xs) (h2 : RdSl 1 RInt w B n xs) (hn : n ≤ 1073741824) :
    Calls Tryd.prog 12 #[.agg #[.slice A n c, .int .i64 h, .int .i64 s], .agg #[.slice B n d, .int .i64 h, .int .i64 s]] w fun e w' => e = .returned (.bool true) ∧ Below w.heap.size w w' := by
  have hb0 : ∀ o1 o2, Below w.heap.size w ((w.alloc o1).alloc o2) := fun o1 o2 => bl_al (bl_al (bl_refl _) _) _
  go_enter Tryd.func12, Tryd.ntmps12
  go_wp2_with (go_at_call 34; refine (eqInt64S_same _ _ _ _ _ xs _ (h1.below RInt.stable (hb0 _ _)) (h2.below RInt.stable (hb0 _ _)) hn).mono ?_; rintro e w1 ⟨rfl, hb1⟩; obtain ⟨chb1, fhb1, shb1, thb1⟩ := bcell hb1; (try have bhb10 := shb1 (w.heap.size) (by go_simp)); (try have bhb11 := shb1 (w.heap.size + 1) (by go_simp)))
  go_ret
  refine ⟨rfl, ?_⟩
  exact bel_

set_option maxRecDepth 100000 in
set_option maxHeartbeats 2000000 in
theorem markMoveS_zero (A : Option Addr) (c k : Nat) (w : World) :
    Calls Tryd.prog 35 #[.slice A 0 c, .int .i64 (k : Int)] w fun e w' => e = .returned (.int .i64 (k : Int)) ∧ w = w' := by
  go_enter Tryd.func35, Tryd.ntmps35
  go_wp2
  refine wp_loop_rounds 1 ?_
  rw [rounds_succ]
  go_wp2
  go_ret
  exact ⟨rfl, rfl⟩
set_option maxRecDepth 100000 in
set_option maxHeartbeats 8000000 in
theorem markMoveS_core (g N n c k : Nat) (f0 : Nat → Value) (w : World) (hrow0 : w.rowIs g 82 N f0) (hN : n * 5 ≤ N) (hk : k + 5 * n ≤ 4611686018427387904) :
    Calls Tryd.prog 35 #[.slice (some ⟨g, 0, none⟩) n c, .int .i64 (k : Int)] w (MkCore 82 5 g N n k w (k + 5 * n)) := by
  have hg1 : g ≤ g := Nat.le_refl _
  have hg2 : g < g + 1 := Nat.lt_succ_self _
  go_enter Tryd.func35, Tryd.ntmps35
  go_wp2
  go_loopg [5, 1] n (fun r x kk wr => ∃ (i : Nat) (f : Nat → Value), i + r = n ∧ x = .int .i64 (i : Int) ∧ kk = .int .i64 ((k + 5 * i : Nat) : Int) ∧ wr.rowIs g 82 N f ∧ (∀ j, j < i * 5 → f j = .int .i64 ((k + j : Nat) : Int)) ∧ Mk g (g + 1) w wr)
  case atStart => exact ⟨0, f0, by omega, rfl, rfl, hrow0, fun j hj => by omega, Mk.refl _ _ _⟩
  case round =>
    obtain ⟨i, f, hi', rfl, rfl, hrow, hcont, hm⟩ := hrel
    have hcontH := Lib.hid hcont
    have hmH := Lib.hid hm
    clear hcont hm
    by_cases hlt : i < n
    · obtain ⟨j0, hj⟩ : ∃ j0, j0 = k + 5 * i := ⟨_, rfl⟩
      have hki : (0 : Int) ≤ (j0 : Int) := by omega
      have hki2 : (j0 : Int) + 5 < 4611686018427387920 := by omega
      have hjH := Lib.hid hj
      rw [← hj]
      clear hj
      have hc0 := hrow.cell (i := i * 5) (by omega)
      have hf0 := hrow.frozen (i * 5)
      have hc1 := hrow.cell (i := i * 5 + 1) (by omega)
      have hf1 := hrow.frozen (i * 5 + 1)
      have hc2 := hrow.cell (i := i * 5 + 2) (by omega)
      have hf2 := hrow.frozen (i * 5 + 2)
      have hc3 := hrow.cell (i := i * 5 + 3) (by omega)
      have hf3 := hrow.frozen (i * 5 + 3)
      have hc4 := hrow.cell (i := i * 5 + 4) (by omega)
      have hf4 := hrow.frozen (i * 5 + 4)
      have hrowH := Lib.hid hrow
      clear hrow
      go_wp2
      go_roundg (n - (i + 1))
      case measure => omega
      case rel => exact ⟨i + 1, _, by omega, by go_num, (by (have := hjH.out; rw [show k + 5 * (i + 1) = j0 + 1 + 1 + 1 + 1 + 1 by omega]; go_num)), ((((((hrowH.out.set (i * 5) _).set (i * 5 + 1) _).set (i * 5 + 2) _).set (i * 5 + 3) _).set (i * 5 + 4) _)), fun j hj => (by
        have hcont := hcontH.out
        have h0 := hjH.out
        rcases (show j < i * 5 ∨ j = i * 5 ∨ j = i * 5 + 1 ∨ j = i * 5 + 2 ∨ j = i * 5 + 3 ∨ j = i * 5 + 4 by omega) with hjj | hjj | hjj | hjj | hjj | hjj
        · rw [if_neg (by omega), if_neg (by omega), if_neg (by omega), if_neg (by omega), if_neg (by omega)]; exact hcont j hjj
        · rw [if_neg (by omega), if_neg (by omega), if_neg (by omega), if_neg (by omega), if_pos (by omega)]; exact congrArg (Value.int IntKind.i64) (by have := hjH.out; omega)
        · rw [if_neg (by omega), if_neg (by omega), if_neg (by omega), if_pos (by omega)]; exact congrArg (Value.int IntKind.i64) (by have := hjH.out; omega)
        · rw [if_neg (by omega), if_neg (by omega), if_pos (by omega)]; exact congrArg (Value.int IntKind.i64) (by have := hjH.out; omega)
        · rw [if_neg (by omega), if_pos (by omega)]; exact congrArg (Value.int IntKind.i64) (by have := hjH.out; omega)
        · rw [if_pos (by omega)]; exact congrArg (Value.int IntKind.i64) (by have := hjH.out; omega)), (((((((((((hmH.out).set (p := ⟨g, i * 5, none⟩) hg1 hg2 _)).set (p := ⟨g, i * 5 + 1, none⟩) hg1 hg2 _)).set (p := ⟨g, i * 5 + 2, none⟩) hg1 hg2 _)).set (p := ⟨g, i * 5 + 3, none⟩) hg1 hg2 _)).set (p := ⟨g, i * 5 + 4, none⟩) hg1 hg2 _))⟩
    · obtain rfl : i = n := by omega
      go_wp2
      go_ret
      exact ⟨rfl, hmH.out, f, hrow, hcontH.out⟩
theorem markMoveS_any2 (A : Option Addr) (n c k lo hi : Nat) (w : World) (h : MkRow 82 5 lo hi w A n) (hh : hi ≤ w.heap.size) (hl : lo ≤ w.heap.size) (hk : k + 5 * n ≤ 4611686018427387904) :
    Calls Tryd.prog 35 #[.slice A n c, .int .i64 (k : Int)] w (MkRes2 lo hi w k (k + 5 * n)) := by
  by_cases hn : n = 0
  · subst hn
    refine (markMoveS_zero A c k w).mono ?_
    rintro e w' ⟨rfl, rfl⟩
    exact ⟨_, rfl, Nat.le_refl _, by omega, Mk.refl _ _ _⟩
  · obtain ⟨g, N, f0, rfl, hg1, hg2, hrow0, hN⟩ := h (by omega)
    refine (markMoveS_core g N n c k f0 w hrow0 hN hk).mono ?_
    rintro e w' ⟨he, hm, f, hrow, hcont⟩
    exact ⟨_, he, by omega, Nat.le_refl _, hm.weaken hg1 (by omega)⟩
set_option maxHeartbeats 2000000 in
theorem markMachine_any2 (A : Option Addr) (n c k lo hi : Nat) (Q S : Int) (w : World) (h : MkRow 82 5 lo hi w A n) (hh : hi ≤ w.heap.size) (hl : lo ≤ w.heap.size) (hk : k + 5 * n ≤ 4611686018427387904) :
    Calls Tryd.prog 13 #[.agg #[.int .i64 Q, .int .i64 S, .slice A n c], .int .i64 (k : Int)] w (MkRes2 lo hi w k (k + 5 * n)) := by
  have ha : Below w.heap.size w (w.alloc (.cells #[.int .i64 Q, .int .i64 S, .slice A n c] 43)) := bl_al (bl_refl _) _
  have haH := Lib.hid ha
  have h' := Lib.hid (h.below ha hh)
  clear h ha
  go_enter Tryd.func13, Tryd.ntmps13
  go_wp2_with fail
  refine (markMoveS_any2 A n c k lo hi _ h'.out (by simp; omega) (by simp; omega) hk).mono ?_
  rintro e w1 ⟨r, rfl, h1, h2, hm1⟩
  have hm1H := Lib.hid hm1
  clear hm1
  go_wp2
  go_ret
  exact ⟨r, rfl, h1, h2, (Mk.of_below haH.out hl).trans hm1H.out⟩
set_option maxHeartbeats 2000000 in
theorem markConfig_any2 (A : Option Addr) (n c k lo hi : Nat) (h s : Int) (w : World) (hr : MkRow 2 1 lo hi w A n) (hh : hi ≤ w.heap.size) (hl : lo ≤ w.heap.size) (hk : k + n ≤ 4611686018427387904) :
    Calls Tryd.prog 14 #[.agg #[.slice A n c, .int .i64 h, .int .i64 s], .int .i64 (k : Int)] w (MkRes2 lo hi w k (k + n)) := by
  have ha : Below w.heap.size w (w.alloc (.cells #[.slice A n c, .int .i64 h, .int .i64 s] 45)) := bl_al (bl_refl _) _
  have haH := Lib.hid ha
  have h' := Lib.hid (hr.below ha hh)
  clear hr ha
  go_enter Tryd.func14, Tryd.ntmps14
  go_wp2_with fail
  refine (markInt64S_any2 A n c k lo hi _ h'.out (by simp; omega) (by simp; omega) hk).mono ?_
  rintro e w1 ⟨r, rfl, h1, h2, hm1⟩
  have hm1H := Lib.hid hm1
  clear hm1
  go_wp2
  go_ret
  exact ⟨r, rfl, h1, h2, (Mk.of_below haH.out hl).trans hm1H.out⟩
end Go.Proofs.YtkiamhpapkgboaaDoor
