import Derived.Test.YtkppijcjmhkkkaaGBC
import Derived.Laws.Bits64b
set_option linter.unusedSimpArgs false
set_option linter.unusedVariables false
/- Walks: a source's next number. -/


namespace Go.Proofs.Ytkppijcjmhkkkaa
open Go.RowKit
attribute [local go_sem] BelowBy.cell BelowBy.cell_drew stillUpon givesUpon

theorem wrapI {n : Int} (h1 : -9000000000000000000 ≤ n) (h2 : n ≤ 9000000000000000000) : IntKind.i64.wrap n = n := by
  simp [IntKind.wrap, IntKind.bits, IntKind.signed]; omega
theorem u64_nat (x : Int) : ∃ k : Nat, IntKind.u64.wrap x = (k : Int) ∧ k < 18446744073709551616 := by
  have h : 0 ≤ IntKind.u64.wrap x ∧ IntKind.u64.wrap x < 18446744073709551616 := by
    simp [IntKind.wrap, IntKind.bits, IntKind.signed]; omega
  exact ⟨(IntKind.u64.wrap x).toNat, by omega, by omega⟩
theorem and255 {s : Nat} (h : s < 18446744073709551616) : ∃ v : Nat, wrap64 (bits .and .u64 ((s : Int) / 1099511627776) 255) = (v : Int) ∧ v < 256 := by
  have h1 : (s : Int) / 1099511627776 = ((s / 1099511627776 : Nat) : Int) := by omega
  have h2 := bits_and_u64_nat (s / 1099511627776) 255 (by omega) (by omega)
  have h3 : (s / 1099511627776) &&& 255 ≤ 255 := Nat.and_le_right
  refine ⟨(s / 1099511627776) &&& 255, ?_, by omega⟩
  rw [h1]
  rw [show (((255 : Nat) : Int)) = (255 : Int) from rfl] at h2
  rw [h2]
  unfold wrap64
  omega
set_option maxRecDepth 100000 in
set_option maxHeartbeats 2000000 in
theorem next_any {p n c a s : Nat} {C : Option Addr} {bs : List Nat} {w : World} (h : Src w p C n c bs a s) (ha : a ≤ 1000000) (hn : n ≤ 1000000) :
    Calls Try.prog 44 #[.pointer (some ⟨p, 0, none⟩)] w fun e w' => ∃ (v s' : Nat), e = .returned (.int .i64 (v : Int)) ∧ v < 256 ∧ Src w' p C n c bs (a + 1) s' ∧ Kp p w w' := by
  have hH := Lib.hid h
  obtain ⟨hlt, c0, c1, c2, f1, f2, hrd, hbs⟩ := h
  have hl := hbs.len
  by_cases han : a < n
  · obtain ⟨v, hv⟩ := hbs.get han
    obtain ⟨b, o, hCe, hb, hc⟩ := hbs.ptr (by omega)
    obtain ⟨d, hv256⟩ := hc a v hv
    simp only [Nat.mul_one] at d
    have hanI : (a : Int) < (n : Int) := by omega
    have ha0 : (0 : Int) ≤ (a : Int) := by omega
    have hle : (a : Int) + 1 ≤ (n : Int) := by omega
    have hw1 : IntKind.i64.wrap ((a : Int) + 1) = (a : Int) + 1 := wrapI (by omega) (by omega)
    have hwv : IntKind.i64.wrap (v : Int) = (v : Int) := wrapI (by omega) (by omega)
    subst hCe
    clear hc hbs
    go_enter Try.func44, Try.ntmps44
    go_wp2
    refine wp_region_ord [(0, .q), (1, .q), (2, .q), (3, .q), (4, .q), (5, .q), (6, .q), (7, .q), (8, .q), (9, .q)] (by kernel_rfl) (by kernel_rfl) ?_
    simp only [pick, List.filterMap_cons, List.filterMap_nil, List.getElem?_toArray, List.getElem?_cons_zero, List.getElem?_cons_succ, Option.map_some]
    repeat (first
      | ((with_reducible refine wpD_p (fun K hK => ?_)); go_simp; refine hK _ ?_; clear hK K)
      | ((with_reducible refine wpD_q (fun K hK => ?_)); go_simp; (first | refine hK _ ?_ | (go_bits; refine hK _ ?_) | (go_bits; go_simp; refine hK _ ?_)); clear hK K)
      | ((with_reducible refine wpD_g (fun K hK => ?_)); go_simp; refine hK _ _ ?_; clear hK K)
      | ((with_reducible refine wpD_g (fun K hK => ?_)); go_simp; refine ⟨Grew.of_alloc _, hK _ _ ?_⟩; clear hK K))
    with_reducible refine wpD_nil ?_
    have k1 : Below w.heap.size w w.drew := bl_dr (bl_refl _)
    have kp1 : Kp p w w.drew := (Kp.refl _ _).drew
    have hH1 := Lib.hid (hH.out.below k1)
    have d1 := (k1.cell (p := ⟨b, o + a, none⟩) hb).trans d
    generalize w.drew = w1 at k1 kp1 hH1 d1 ⊢
    have kp1H := Lib.hid kp1
    have hb1 : b < w1.heap.size := Nat.lt_of_lt_of_le hb k1.size
    clear c0 c1 c2 f1 f2 hlt d k1 kp1
    have e0 := hH1.out.c0
    have e1 := hH1.out.c1
    have e2 := hH1.out.c2
    have e3 := hH1.out.f1
    have e4 := hH1.out.f2
    have e5 := hH1.out.lt
    go_wp2
    refine wp_region_ord [(0, .q), (1, .q), (2, .q), (3, .q), (4, .q), (5, .q), (6, .q), (7, .q), (8, .q), (9, .q), (10, .q), (11, .q)] (by kernel_rfl) (by kernel_rfl) ?_
    simp only [pick, List.filterMap_cons, List.filterMap_nil, List.getElem?_toArray, List.getElem?_cons_zero, List.getElem?_cons_succ, Option.map_some]
    repeat (first
      | ((with_reducible refine wpD_p (fun K hK => ?_)); go_simp; refine hK _ ?_; clear hK K)
      | ((with_reducible refine wpD_q (fun K hK => ?_)); go_simp; (first | refine hK _ ?_ | (go_bits; refine hK _ ?_) | (go_bits; go_simp; refine hK _ ?_)); clear hK K)
      | ((with_reducible refine wpD_g (fun K hK => ?_)); go_simp; refine hK _ _ ?_; clear hK K)
      | ((with_reducible refine wpD_g (fun K hK => ?_)); go_simp; refine ⟨Grew.of_alloc _, hK _ _ ?_⟩; clear hK K))
    with_reducible refine wpD_nil ?_
    have k2 : Below w1.heap.size w1 w1.drew := bl_dr (bl_refl _)
    have kp2 := Lib.hid (show Kp p w w1.drew from kp1H.out.drew)
    have hH2 := Lib.hid (hH1.out.below k2)
    generalize w1.drew = w2 at k2 kp2 hH2 ⊢
    clear e0 e1 e2 e3 e4 e5 d1 k2
    have e0 := hH2.out.c0
    have e1 := hH2.out.c1
    have e2 := hH2.out.c2
    have e3 := hH2.out.f1
    have e4 := hH2.out.f2
    have e5 := hH2.out.lt
    go_wp2
    obtain ⟨s', hs', hs64⟩ := u64_nat (IntKind.u64.wrap (IntKind.u64.wrap ((s : Int) * 6364136223846793005) + (v : Int)) + 1442695040888963407)
    rw [hs']
    have hH3 := hH2.out.stored (a' := a + 1) (s' := s')
    rw [show ((a + 1 : Nat) : Int) = (a : Int) + 1 by omega] at hH3
    have kp3 := (kp2.out.set 1 (.int .i64 ((a : Int) + 1))).set 2 (.int .u64 (s' : Int))
    obtain ⟨w3, hw3⟩ : ∃ w3, ((w2.setCell ⟨p, 1, none⟩ (.int .i64 ((a : Int) + 1))).setCell ⟨p, 2, none⟩ (.int .u64 (s' : Int))) = w3 := ⟨_, rfl⟩
    rw [hw3] at hH3 kp3 ⊢
    have hH3H := Lib.hid hH3
    have kp3H := Lib.hid kp3
    clear e0 e1 e2 e3 e4 e5 kp3 hw3 hs'
    have e0 := hH3.c0
    have e1 := hH3.c1
    rw [show ((a + 1 : Nat) : Int) = (a : Int) + 1 by omega] at e1
    have e2 := hH3.c2
    have e5 := hH3.lt
    clear hH3
    refine wp_region_ord [(0, .q), (1, .q), (2, .q), (3, .q), (4, .q), (5, .q), (6, .q), (7, .q), (8, .q), (9, .q)] (by kernel_rfl) (by kernel_rfl) ?_
    simp only [pick, List.filterMap_cons, List.filterMap_nil, List.getElem?_toArray, List.getElem?_cons_zero, List.getElem?_cons_succ, Option.map_some]
    repeat (first
      | ((with_reducible refine wpD_p (fun K hK => ?_)); go_simp; refine hK _ ?_; clear hK K)
      | ((with_reducible refine wpD_q (fun K hK => ?_)); go_simp; (first | refine hK _ ?_ | (go_bits; refine hK _ ?_) | (go_bits; go_simp; refine hK _ ?_)); clear hK K)
      | ((with_reducible refine wpD_g (fun K hK => ?_)); go_simp; refine hK _ _ ?_; clear hK K)
      | ((with_reducible refine wpD_g (fun K hK => ?_)); go_simp; refine ⟨Grew.of_alloc _, hK _ _ ?_⟩; clear hK K))
    with_reducible refine wpD_nil ?_
    go_wp2
    go_ret
    exact ⟨v, s', rfl, hv256, hH3H.out.below (bl_dr (bl_refl _)), kp3H.out.drew⟩
  · have hanI : ¬ (a : Int) < (n : Int) := by omega
    have hle : ¬ (a : Int) + 1 ≤ (n : Int) := by omega
    have hw1 : IntKind.i64.wrap ((a : Int) + 1) = (a : Int) + 1 := wrapI (by omega) (by omega)
    go_enter Try.func44, Try.ntmps44
    go_wp2
    refine wp_region_ord [(0, .q), (1, .q), (2, .q), (3, .q), (4, .q), (5, .q), (6, .q), (7, .q), (8, .q), (9, .q)] (by kernel_rfl) (by kernel_rfl) ?_
    simp only [pick, List.filterMap_cons, List.filterMap_nil, List.getElem?_toArray, List.getElem?_cons_zero, List.getElem?_cons_succ, Option.map_some]
    repeat (first
      | ((with_reducible refine wpD_p (fun K hK => ?_)); go_simp; refine hK _ ?_; clear hK K)
      | ((with_reducible refine wpD_q (fun K hK => ?_)); go_simp; (first | refine hK _ ?_ | (go_bits; refine hK _ ?_) | (go_bits; go_simp; refine hK _ ?_)); clear hK K)
      | ((with_reducible refine wpD_g (fun K hK => ?_)); go_simp; refine hK _ _ ?_; clear hK K)
      | ((with_reducible refine wpD_g (fun K hK => ?_)); go_simp; refine ⟨Grew.of_alloc _, hK _ _ ?_⟩; clear hK K))
    with_reducible refine wpD_nil ?_
    have k1 : Below w.heap.size w w.drew := bl_dr (bl_refl _)
    have kp2 := Lib.hid (show Kp p w w.drew from (Kp.refl _ _).drew)
    have hH2 := Lib.hid (hH.out.below k1)
    generalize w.drew = w2 at k1 kp2 hH2 ⊢
    clear c0 c1 c2 f1 f2 hlt k1
    have e0 := hH2.out.c0
    have e1 := hH2.out.c1
    have e2 := hH2.out.c2
    have e3 := hH2.out.f1
    have e4 := hH2.out.f2
    have e5 := hH2.out.lt
    go_wp2
    obtain ⟨s', hs', hs64⟩ := u64_nat (IntKind.u64.wrap (IntKind.u64.wrap ((s : Int) * 6364136223846793005)) + 1442695040888963407)
    rw [hs']
    have hH3 := hH2.out.stored (a' := a + 1) (s' := s')
    rw [show ((a + 1 : Nat) : Int) = (a : Int) + 1 by omega] at hH3
    have kp3 := (kp2.out.set 1 (.int .i64 ((a : Int) + 1))).set 2 (.int .u64 (s' : Int))
    obtain ⟨w3, hw3⟩ : ∃ w3, ((w2.setCell ⟨p, 1, none⟩ (.int .i64 ((a : Int) + 1))).setCell ⟨p, 2, none⟩ (.int .u64 (s' : Int))) = w3 := ⟨_, rfl⟩
    rw [hw3] at hH3 kp3 ⊢
    have hH3H := Lib.hid hH3
    have kp3H := Lib.hid kp3
    clear e0 e1 e2 e3 e4 e5 kp3 hw3 hs'
    have e0 := hH3.c0
    have e1 := hH3.c1
    rw [show ((a + 1 : Nat) : Int) = (a : Int) + 1 by omega] at e1
    have e2 := hH3.c2
    have e5 := hH3.lt
    clear hH3
    refine wp_region_ord [(0, .q), (1, .q), (2, .q), (3, .q), (4, .q), (5, .q), (6, .q), (7, .q), (8, .q), (9, .q)] (by kernel_rfl) (by kernel_rfl) ?_
    simp only [pick, List.filterMap_cons, List.filterMap_nil, List.getElem?_toArray, List.getElem?_cons_zero, List.getElem?_cons_succ, Option.map_some]
    repeat (first
      | ((with_reducible refine wpD_p (fun K hK => ?_)); go_simp; refine hK _ ?_; clear hK K)
      | ((with_reducible refine wpD_q (fun K hK => ?_)); go_simp; (first | refine hK _ ?_ | (go_bits; refine hK _ ?_) | (go_bits; go_simp; refine hK _ ?_)); clear hK K)
      | ((with_reducible refine wpD_g (fun K hK => ?_)); go_simp; refine hK _ _ ?_; clear hK K)
      | ((with_reducible refine wpD_g (fun K hK => ?_)); go_simp; refine ⟨Grew.of_alloc _, hK _ _ ?_⟩; clear hK K))
    with_reducible refine wpD_nil ?_
    go_wp2
    obtain ⟨v, hv, hv2⟩ := and255 hs64
    go_ret
    exact ⟨v, s', ret_int hv, hv2, hH3H.out.below (bl_dr (bl_refl _)), kp3H.out.drew⟩
end Go.Proofs.Ytkppijcjmhkkkaa
/- Walks: picks of a source; a drawn point and direction. -/

namespace Go.Proofs.Ytkppijcjmhkkkaa
open Go.RowKit
attribute [local go_sem] BelowBy.cell BelowBy.cell_drew stillUpon givesUpon

set_option maxHeartbeats 1000000 in
theorem pick_any {p n c a s N : Nat} {C : Option Addr} {bs : List Nat} {w : World} (h : Src w p C n c bs a s) (ha : a ≤ 1000000) (hn : n ≤ 1000000) (h1 : 2 ≤ N) (h2 : N ≤ 200) :
    Calls Try.prog 21 #[.pointer (some ⟨p, 0, none⟩), .int .i64 (N : Int)] w fun e w' => ∃ (v s' : Nat), e = .returned (.int .i64 (v : Int)) ∧ v < N ∧ Src w' p C n c bs (a + 1) s' ∧ Kp p w w' := by
  have hH := Lib.hid h
  clear h
  have hN1 : ¬ (N : Int) ≤ 1 := by omega
  have hN2 : ¬ (200 : Int) < (N : Int) := by omega
  have hN0 : ((N : Int) == 0) = false := by simp; omega
  have hN0' : ¬ (N : Int) = 0 := by omega
  go_enter Try.func21, Try.ntmps21
  go_wp2_with (go_at_call 44; refine (next_any hH.out ha hn).mono ?_; rintro e w1 ⟨v, s', rfl, hv, hS, hb⟩; have hSH := Lib.hid hS; have hbH := Lib.hid hb; clear hS hb)
  go_ret
  have hm : (v : Int).tmod (N : Int) = ((v % N : Nat) : Int) := by rw [Int.tmod_eq_emod_of_nonneg (by omega)]; omega
  exact ⟨v % N, s', by first | exact ret_int hm | (simp [hm]; done), Nat.mod_lt _ (by omega), hSH.out, hbH.out⟩
set_option maxHeartbeats 1000000 in
theorem one_any {p n c a s : Nat} {C : Option Addr} {bs : List Nat} {w : World} (h : Src w p C n c bs a s) (ha : a ≤ 1000000) (hn : n ≤ 1000000) :
    Calls Try.prog 41 #[.pointer (some ⟨p, 0, none⟩), .int .i64 24] w fun e w' => ∃ (v : Bool) (s' : Nat), e = .returned (.bool v) ∧ Src w' p C n c bs (a + 1) s' ∧ Kp p w w' := by
  have hH := Lib.hid h
  clear h
  go_enter Try.func41, Try.ntmps41
  go_wp2_with (go_at_call 21; refine (pick_any (N := 24) hH.out ha hn (by omega) (by omega)).mono ?_; rintro e w1 ⟨v, s', rfl, hv, hS, hb⟩; have hSH := Lib.hid hS; have hbH := Lib.hid hb; clear hS hb)
  go_ret
  exact ⟨_, s', rfl, hSH.out, hbH.out⟩
end Go.Proofs.Ytkppijcjmhkkkaa
/- Walks: a drawn point and direction. -/

namespace Go.Proofs.Ytkppijcjmhkkkaa
open Go.RowKit
attribute [local go_sem] BelowBy.cell BelowBy.cell_drew stillUpon givesUpon KpBy.cell KpBy.cell_drew

theorem f6big_at {C : Option Addr} {n c : Nat} {v : Bool} (w : World) (h : decide (4096 < n) = v) :
    Calls Try.prog 5 #[.slice C n c] w fun e w' => e = .returned (.bool v) ∧ w = w' := by
  cases v
  · have h1 : ¬ (4096 : Int) < (n : Int) := by have := of_decide_eq_false h; omega
    go_enter Try.func5, Try.ntmps5
    go_wp2
    go_ret
    first | exact ⟨rfl, rfl⟩ | exact ⟨ret_bool (by simp; omega), rfl⟩
  · have h1 : (4096 : Int) < (n : Int) := by have := of_decide_eq_true h; omega
    go_enter Try.func5, Try.ntmps5
    go_wp2
    go_ret
    first | exact ⟨rfl, rfl⟩ | exact ⟨ret_bool (by simp; omega), rfl⟩
theorem l00From_any {C : Option Addr} {n c : Nat} {bs : List Nat} (w : World) (h : RdSl 1 RBy w C n bs) :
    Calls Try.prog 20 #[.slice C n c] w fun e w' => ∃ p, e = .returned (.pointer (some ⟨p, 0, none⟩)) ∧ w.heap.size ≤ p ∧ Src w' p C n c bs 0 0 ∧ Below w.heap.size w w' := by
  have hH := Lib.hid h
  clear h
  go_enter Try.func20, Try.ntmps20
  go_wp2
  go_ret
  refine ⟨_, rfl, ?_, ⟨?_, ?_, ?_, ?_, ?_, ?_, ?_, ?_⟩, ?_⟩
  · go_simp
  · go_simp
  · go_simp
  · go_simp
  · go_simp
  · go_simp
  · go_simp
  · intro hp b o hC
    obtain ⟨b', o', hA, hbl, hc⟩ := hH.out.cells hp
    rw [hC] at hA
    cases hA
    go_simp
  · exact hH.out.below RBy.stable (by exact bel_)
  · exact bel_
end Go.Proofs.Ytkppijcjmhkkkaa
