/- Walks: a drawn point and direction. -/
import Derived.Test.YtpfbaeccjppagaaDoorFP3
namespace Go.Proofs.YtpfbaeccjppagaaDoor
open Go.RowKit
set_option linter.unusedSimpArgs false
set_option linter.unusedVariables false
attribute [local go_sem] BelowBy.cell BelowBy.cell_drew stillUpon givesUpon KpBy.cell KpBy.cell_drew

theorem f6big_at {C : Option Addr} {n c : Nat} {v : Bool} (w : World) (h : decide (4096 < n) = v) :
    Calls Tryd.prog 4 #[.slice C n c] w fun e w' => e = .returned (.bool v) ∧ w = w' := by
  cases v
  · have h1 : ¬ (4096 : Int) < (n : Int) := by have := of_decide_eq_false h; omega
    go_enter Tryd.func4, Tryd.ntmps4
    go_wp2
    go_ret
    first | exact ⟨rfl, rfl⟩ | exact ⟨ret_bool (by simp; omega), rfl⟩
  · have h1 : (4096 : Int) < (n : Int) := by have := of_decide_eq_true h; omega
    go_enter Tryd.func4, Tryd.ntmps4
    go_wp2
    go_ret
    first | exact ⟨rfl, rfl⟩ | exact ⟨ret_bool (by simp; omega), rfl⟩
theorem l00From_any {C : Option Addr} {n c : Nat} {bs : List Nat} (w : World) (h : RdSl 1 RBy w C n bs) :
    Calls Tryd.prog 14 #[.slice C n c] w fun e w' => ∃ p, e = .returned (.pointer (some ⟨p, 0, none⟩)) ∧ w.heap.size ≤ p ∧ Src w' p C n c bs 0 0 ∧ Below w.heap.size w w' := by
  have hH := Lib.hid h
  clear h
  go_enter Tryd.func14, Tryd.ntmps14
  go_wp2
  go_ret
  refine ⟨_, rfl, ?_, ⟨?_, ?_, ?_, ?_, ?_, ?_, ?_, ?_⟩, ?_⟩
  · go_simp
  · go_simp
  · go_simp
  · go_simp
  · go_simp
  · go_simp
  · go_simp
  · intro hp b o hC
    obtain ⟨b', o', hA, hbl, hc⟩ := hH.out.cells hp
    rw [hC] at hA
    cases hA
    go_simp
  · exact hH.out.below RBy.stable (by exact bel_)
  · exact bel_
set_option maxRecDepth 100000 in
set_option maxHeartbeats 2000000 in
theorem l01DrawPoint_any {p n c a s : Nat} {C : Option Addr} {bs : List Nat} {w : World} (h : Src w p C n c bs a s) (ha : a ≤ 1000) (hn : n ≤ 1000000) :
    Calls Tryd.prog 15 #[.pointer (some ⟨p, 0, none⟩)] w fun e w' => ∃ (x y : Int) (a' s' : Nat), e = .returned (.agg #[.int .i64 x, .int .i64 y]) ∧ a' ≤ a + 3 ∧ Src w' p C n c bs a' s' ∧ Kp p w w' := by
  have hH := Lib.hid h
  have hp := h.lt
  clear h
  have hne : w.heap.size ≠ p := by omega
  go_enter Tryd.func15, Tryd.ntmps15
  go_wp2_with (go_at_call 29; refine (one_any (hH.out.below (by exact bel_)) (by omega) hn).mono ?_; rintro e w1 ⟨v, s1, rfl, hS1, hk1⟩; obtain ⟨ck1, fk1, sk1, tk1⟩ := kcell hk1; have hS1H := Lib.hid hS1; have hk1H := Lib.hid hk1; clear hS1 hk1)
  · have sz0 : w.heap.size < w1.heap.size := sk1 _ (by go_simp)
    have hne1 : w1.heap.size ≠ p := by omega
    have sz0' : w.heap.size ≤ w1.heap.size := by omega
    have sz0'' : ¬ w.heap.size = w1.heap.size := by omega
    refine (among_any (L := [-60, -61, 60, 61, -9223372036854775808, 9223372036854775807]) (hS1H.out.below (by exact bel_)) (by omega) hn rfl (by go_simp) hne1 (by
      intro i v hi
      match i, hi with
      | 0, hi => cases hi; go_simp
      | 1, hi => cases hi; go_simp
      | 2, hi => cases hi; go_simp
      | 3, hi => cases hi; go_simp
      | 4, hi => cases hi; go_simp
      | 5, hi => cases hi; go_simp)).mono ?_
    rintro e w2 ⟨v2, s2, rfl, _, hS2, hk2⟩
    obtain ⟨ck2, fk2, sk2, tk2⟩ := kcell hk2
    have hS2H := Lib.hid hS2
    have hk2H := Lib.hid hk2
    clear hS2 hk2
    go_wp2_with fail
    refine (pick_any (N := 9) hS2H.out (by omega) hn (by omega) (by omega)).mono ?_
    rintro e w3 ⟨v3, s3, rfl, _, hS3, hk3⟩
    obtain ⟨ck3, fk3, sk3, tk3⟩ := kcell hk3
    have hS3H := Lib.hid hS3
    have hk3H := Lib.hid hk3
    clear hS3 hk3
    have sz1 := sk2 w.heap.size (by go_simp)
    have sz2 := sk3 _ sz1
    have sz0l : w.heap.size < (w1.alloc (.cells #[.int .i64 (-60), .int .i64 (-61), .int .i64 60, .int .i64 61, .int .i64 (-9223372036854775808), .int .i64 9223372036854775807] 2)).heap.size := by simp only [World.size_alloc]; omega
    have c30 : ∀ o, w3.cell? ⟨w.heap.size, o, none⟩ = w1.cell? ⟨w.heap.size, o, none⟩ := fun o => by
      rw [ck3 _ _ hne sz1, ck2 _ _ hne sz0l]; go_simp
    have f30 : ∀ o, w3.frozen? ⟨w.heap.size, o, none⟩ = w1.frozen? ⟨w.heap.size, o, none⟩ := fun o => by
      rw [fk3 _ _ hne sz1, fk2 _ _ hne sz0l]; go_simp
    clear ck2 ck3 fk2 fk3 sz0l
    go_wp2
    refine bodyPost_ret (v := .agg #[.int .i64 v2, .int .i64 (v3 : Int)]) (by simp only [results, Tryd.results15]; go_simp) rfl ?_

    refine ⟨_, _, _, s3, rfl, ?_, hS3H.out.belowB hp (((Below.refl w.heap.size w3).setCell (p := ⟨w.heap.size, 0, none⟩) (Nat.le_refl _) _).setCell (p := ⟨w.heap.size, 1, none⟩) (Nat.le_refl _) _), ?_⟩
    · omega
    · exact (((((Kp.refl p w).thenB hp (by exact bel_)).trans hk1H.out).thenB hp ((Below.refl _ _).alloc sz0' _)).trans hk2H.out |>.trans hk3H.out).thenB hp (((Below.refl w.heap.size w3).setCell (p := ⟨w.heap.size, 0, none⟩) (Nat.le_refl _) _).setCell (p := ⟨w.heap.size, 1, none⟩) (Nat.le_refl _) _)
  · refine (pick_any (N := 9) hS1H.out (by omega) hn (by omega) (by omega)).mono ?_
    rintro e w2 ⟨v2, s2, rfl, hv2, hS2, hk2⟩
    obtain ⟨ck2, fk2, sk2, tk2⟩ := kcell hk2
    have hS2H := Lib.hid hS2
    have hk2H := Lib.hid hk2
    clear hS2 hk2
    go_wp2_with fail
    refine (pick_any (N := 9) hS2H.out (by omega) hn (by omega) (by omega)).mono ?_
    rintro e w3 ⟨v3, s3, rfl, hv3, hS3, hk3⟩
    obtain ⟨ck3, fk3, sk3, tk3⟩ := kcell hk3
    have hS3H := Lib.hid hS3
    have hk3H := Lib.hid hk3
    clear hS3 hk3
    have sz0 : w.heap.size < w1.heap.size := sk1 _ (by go_simp)
    have sz1 := sk2 _ sz0
    have sz2 := sk3 _ sz1
    have hw2 : IntKind.i64.wrap ((v2 : Int) - 4) = (v2 : Int) - 4 := wrapI (by omega) (by omega)
    have hw3 : IntKind.i64.wrap ((v3 : Int) - 4) = (v3 : Int) - 4 := wrapI (by omega) (by omega)
    go_wp2
    refine bodyPost_ret (v := .agg #[.int .i64 ((v2 : Int) - 4), .int .i64 ((v3 : Int) - 4)]) (by simp only [results, Tryd.results15]; go_simp) rfl ?_
    refine ⟨_, _, _, s3, rfl, ?_, hS3H.out.belowB hp (((Below.refl w.heap.size w3).setCell (p := ⟨w.heap.size, 0, none⟩) (Nat.le_refl _) _).setCell (p := ⟨w.heap.size, 1, none⟩) (Nat.le_refl _) _), ?_⟩
    · omega
    · exact (((((Kp.refl p w).thenB hp (by exact bel_)).trans hk1H.out)).trans hk2H.out |>.trans hk3H.out).thenB hp (((Below.refl w.heap.size w3).setCell (p := ⟨w.heap.size, 0, none⟩) (Nat.le_refl _) _).setCell (p := ⟨w.heap.size, 1, none⟩) (Nat.le_refl _) _)
set_option maxRecDepth 100000 in
set_option maxHeartbeats 2000000 in
theorem DrawStepPoint_any {n c : Nat} {C : Option Addr} {bs : List Nat} {w : World} (h : RdSl 1 RBy w C n bs) (hn : n ≤ 1000000) :
    Calls Tryd.prog 5 #[.slice C n c] w fun e w' => ∃ (x y d : Int), e = .returned (.tuple #[.agg #[.int .i64 x, .int .i64 y], .int .i64 d]) ∧ -1 ≤ d ∧ d ≤ 4 ∧ Below w.heap.size w w' := by
  have hH := Lib.hid h
  clear h
  go_enter Tryd.func5, Tryd.ntmps5
  go_wp2_with fail
  refine (l00From_any _ (hH.out.below RBy.stable (by exact bel_))).mono ?_
  rintro e w1 ⟨p, rfl, hp, hS1, hb1⟩
  obtain ⟨chb1, fhb1, shb1, thb1⟩ := bcell hb1
  have hp0 : w.heap.size < p := by simp only [World.size_alloc] at hp; omega
  have hS1H := Lib.hid hS1
  have hb1H := Lib.hid (show Below w.heap.size w w1 from by exact bel_)
  clear hS1 hp
  go_wp2_with fail
  refine (l01DrawPoint_any hS1H.out (by omega) hn).mono ?_
  rintro e w2 ⟨x, y, a2, s2, rfl, ha2, hS2, hk2⟩
  obtain ⟨ck2, fk2, sk2, tk2⟩ := kcell hk2
  have hS2H := Lib.hid hS2
  have hk2H := Lib.hid hk2
  have hb2H := Lib.hid (show Below w.heap.size w w2 from hb1H.out.trans (hk2.below.mono (Nat.le_of_lt hp0)))
  have hne : w.heap.size ≠ p := by omega
  have sz0 : w.heap.size < w1.heap.size := shb1 _ (by go_simp)
  have sz1 := sk2 _ sz0
  have c20 : ∀ o, w2.cell? ⟨w.heap.size, o, none⟩ = (w.alloc (.cells #[.int .i64 0, .int .i64 0] 25)).cell? ⟨w.heap.size, o, none⟩ := fun o => by
    rw [ck2 _ _ hne sz0, chb1 _ _ (by go_simp)]
  have f20 : ∀ o, w2.frozen? ⟨w.heap.size, o, none⟩ = (w.alloc (.cells #[.int .i64 0, .int .i64 0] 25)).frozen? ⟨w.heap.size, o, none⟩ := fun o => by
    rw [fk2 _ _ hne sz0, fhb1 _ _ (by go_simp)]
  clear hS2 hk2 ck2 fk2 chb1 fhb1
  have hne2 : w2.heap.size ≠ p := by have := hS2H.out.lt; omega
  have sz1' : w.heap.size ≤ w2.heap.size := by omega
  have sz1'' : ¬ w.heap.size = w2.heap.size := by omega
  go_wp2_with fail
  refine wp_region_ordK (p := p) [(0, .q), (1, .q), (2, .g), (3, .p), (4, .b), (5, .q)] (by kernel_rfl) (by kernel_rfl) ?_
  simp only [pick, List.filterMap_cons, List.filterMap_nil, List.getElem?_toArray, List.getElem?_cons_zero, List.getElem?_cons_succ, Option.map_some]
  repeat (first | ((with_reducible refine wpK_p (fun K hK => ?_)); go_simp; refine hK _ ?_; clear hK K) | ((with_reducible refine wpK_q (fun K hK => ?_)); go_simp; (first | refine hK _ ?_ | (go_bits; refine hK _ ?_) | (go_bits; go_simp; refine hK _ ?_)); clear hK K))
  with_reducible refine wpK_g (fun K hK => ?_)
  go_simp
  refine (pick_any (N := 6) (hS2H.out.below (by exact bel_)) (by omega) hn (by omega) (by omega)).mono ?_
  rintro e w3 ⟨v, s3, rfl, hv, hS3, hk3⟩
  refine ⟨_, rfl, hk3, hK _ _ ?_⟩
  clear hK K
  have hw : IntKind.i64.wrap ((v : Int) - 1) = (v : Int) - 1 := wrapI (by omega) (by omega)
  obtain ⟨ck3, fk3, sk3, tk3⟩ := kcell hk3
  have szl : w.heap.size < (w2.alloc (.cells #[.int .i64 x, .int .i64 y] 25)).drew.heap.size := by simp only [World.size_alloc, World.size_drew]; omega
  have sz2 := sk3 _ szl
  have c30 : ∀ o, w3.cell? ⟨w.heap.size, o, none⟩ = (w.alloc (.cells #[.int .i64 0, .int .i64 0] 25)).cell? ⟨w.heap.size, o, none⟩ := fun o => by
    rw [ck3 _ _ hne szl, ← c20]; go_simp
  have f30 : ∀ o, w3.frozen? ⟨w.heap.size, o, none⟩ = (w.alloc (.cells #[.int .i64 0, .int .i64 0] 25)).frozen? ⟨w.heap.size, o, none⟩ := fun o => by
    rw [fk3 _ _ hne szl, ← f20]; go_simp
  have hb3H := Lib.hid (show Below w.heap.size w w3 from (hb2H.out.trans (((Below.refl _ _).alloc (by omega) _).drew)).trans (hk3.below.mono (Nat.le_of_lt hp0)))
  clear ck3 fk3 hk3 c20 f20
  repeat (first | ((with_reducible refine wpK_p (fun K hK => ?_)); go_simp; refine hK _ ?_; clear hK K) | ((with_reducible refine wpK_q (fun K hK => ?_)); go_simp; (first | refine hK _ ?_ | (go_bits; refine hK _ ?_) | (go_bits; go_simp; refine hK _ ?_)); clear hK K))
  with_reducible refine wpK_b (fun K hK => ?_)
  go_simp
  refine hK _ _ ?_
  clear hK K
  repeat (first | ((with_reducible refine wpK_p (fun K hK => ?_)); go_simp; refine hK _ ?_; clear hK K) | ((with_reducible refine wpK_q (fun K hK => ?_)); go_simp; (first | refine hK _ ?_ | (go_bits; refine hK _ ?_) | (go_bits; go_simp; refine hK _ ?_)); clear hK K))
  with_reducible refine wpK_nil ?_
  go_wp2
  refine bodyPost_ret (v := .tuple #[.agg #[.int .i64 x, .int .i64 y], .int .i64 ((v : Int) - 1)]) (by simp only [results, Tryd.results5]; go_simp) rfl ?_
  refine ⟨_, _, _, rfl, by omega, by omega, ?_⟩
  exact (hb3H.out.setCell (p := ⟨w.heap.size, 0, none⟩) (Nat.le_refl _) _).setCell (p := ⟨w.heap.size, 1, none⟩) (Nat.le_refl _) _
end Go.Proofs.YtpfbaeccjppagaaDoor
