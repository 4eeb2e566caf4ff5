import Derived.Test.YtedihnokcpnikaaGreatW1
import Derived.Test.YtedihnokcpnikaaGreatBase2
import Derived.Test.YtedihnokcpnikaaGreatPts
import Derived.Test.YtedihnokcpnikaaGreatKH
set_option linter.unusedSimpArgs false
set_option linter.unusedVariables false
/- Walks: the harness' comparisons, where both sides read as the same list. -/


namespace Go.Proofs.YtedihnokcpnikaaGreat
open Go.RowKit
attribute [local go_sem] BelowBy.cell BelowBy.cell_drew stillUpon givesUpon

theorem eqGlue_same (s : ByteArray) (t : Int) (w : World) :
    Calls Tryz.prog 81 #[.agg #[.string s, .int .i64 t], .agg #[.string s, .int .i64 t]] w fun e w' => e = .returned (.bool true) ∧ Below w.heap.size w w' := by
  go_enter Tryz.func81, Tryz.ntmps81
  go_wp2
  go_ret
  exact ⟨rfl, bl_al (bl_al (bl_refl _) _) _⟩
theorem eqPoint_same (x y : Int) (w : World) :
    Calls Tryz.prog 50 #[.agg #[.int .i64 x, .int .i64 y], .agg #[.int .i64 x, .int .i64 y]] w fun e w' => e = .returned (.bool true) ∧ Below w.heap.size w w' := by
  go_enter Tryz.func50, Tryz.ntmps50
  go_wp2
  go_ret
  exact ⟨rfl, bl_al (bl_al (bl_refl _) _) _⟩
theorem eqPlaced_same (x y t : Int) (w : World) :
    Calls Tryz.prog 80 #[.agg #[.int .i64 x, .int .i64 y, .int .i64 t], .agg #[.int .i64 x, .int .i64 y, .int .i64 t]] w fun e w' => e = .returned (.bool true) ∧ Below w.heap.size w w' := by
  
  go_enter Tryz.func80, Tryz.ntmps80
  go_wp2_with (go_at_call 50; refine (eqPoint_same _ _ _).mono ?_; rintro e w1 ⟨rfl, hb1⟩; obtain ⟨chb1, fhb1, shb1, thb1⟩ := bcell hb1; (try have bhb10 := shb1 (w.heap.size) (by go_simp)); (try have bhb11 := shb1 (w.heap.size + 1) (by go_simp)))
  go_ret
  refine ⟨rfl, ?_⟩
  exact bel_

set_option maxHeartbeats 1000000 in
theorem eqInt64S_same (A B : Option Addr) (n c d : Nat) (xs : List Int) (w : World) (h1 : RdSl 1 RInt w A n xs) (h2 : RdSl 1 RInt w B n xs) (hn : n ≤ 1073741824) :
    Calls Tryz.prog 126 #[.slice A n c, .slice B n d] w fun e w' => e = .returned (.bool true) ∧ Below w.heap.size w w' := by
  
  go_enter Tryz.func126, Tryz.ntmps126
  go_wp2
  go_loopg [5] n (fun g i wr => ∃ k : Nat, k + g = n ∧ i = .int .i64 k ∧ Below w.heap.size w wr)
  case atStart => exact ⟨0, by omega, rfl, Below.refl _ _⟩
  case round =>
    obtain ⟨k, hk, rfl, hbw⟩ := hrel
    have r1 := h1.below RInt.stable hbw
    have r2 := h2.below RInt.stable hbw
    by_cases hlt : k < n
    · obtain ⟨b, o, rfl, hb, hc⟩ := r1.ptr (by omega)
      obtain ⟨b2, o2, rfl, hb2, hc2⟩ := r2.ptr (by omega)
      obtain ⟨e, he⟩ := h1.get hlt
      have c1 := hc k e he
      have c2 := hc2 k e he
      unfold RInt at c1 c2
      simp only [Nat.mul_one] at c1 c2
      clear hc hc2 he r1 r2
      go_wp2
      refine wp_region_ord [(0, .q), (1, .q), (2, .q), (3, .q), (4, .q), (5, .q), (6, .q), (7, .q), (8, .q)] (by kernel_rfl) (by kernel_rfl) ?_
      simp only [pick, List.filterMap_cons, List.filterMap_nil, List.getElem?_toArray, List.getElem?_cons_zero, List.getElem?_cons_succ, Option.map_some]
      repeat (first
        | ((with_reducible refine wpD_p (fun K hK => ?_)); go_simp; refine hK _ ?_; clear hK K)
        | ((with_reducible refine wpD_q (fun K hK => ?_)); go_simp; (first | refine hK _ ?_ | (go_bits; refine hK _ ?_) | (go_bits; go_simp; refine hK _ ?_)); clear hK K)
        | ((with_reducible refine wpD_g (fun K hK => ?_)); go_simp; refine hK _ _ ?_; clear hK K)
        | ((with_reducible refine wpD_g (fun K hK => ?_)); go_simp; refine ⟨Grew.of_alloc _, hK _ _ ?_⟩; clear hK K))
      with_reducible refine wpD_nil ?_
      go_wp2
      go_roundg (n - (k + 1))
      case measure => omega
      case rel => exact ⟨k + 1, by omega, by go_num, (by exact bel_)⟩
    · obtain rfl : k = n := by omega
      go_wp2
      go_ret
      exact ⟨rfl, hbw⟩

set_option maxHeartbeats 1000000 in
theorem eqGlueS_same (A B : Option Addr) (n c d : Nat) (xs : List Gl) (w : World) (h1 : RdSl 2 RGl w A n xs) (h2 : RdSl 2 RGl w B n xs) (hn : n ≤ 1073741824) :
    Calls Tryz.prog 42 #[.slice A n c, .slice B n d] w fun e w' => e = .returned (.bool true) ∧ Below w.heap.size w w' := by
  
  go_enter Tryz.func42, Tryz.ntmps42
  go_wp2
  go_loopg [5] n (fun g i wr => ∃ k : Nat, k + g = n ∧ i = .int .i64 k ∧ Below w.heap.size w wr)
  case atStart => exact ⟨0, by omega, rfl, Below.refl _ _⟩
  case round =>
    obtain ⟨k, hk, rfl, hbw⟩ := hrel
    have r1 := h1.below RGl.stable hbw
    have r2 := h2.below RGl.stable hbw
    by_cases hlt : k < n
    · obtain ⟨b, o, rfl, hb, hc⟩ := r1.ptr (by omega)
      obtain ⟨b2, o2, rfl, hb2, hc2⟩ := r2.ptr (by omega)
      obtain ⟨e, he⟩ := h1.get hlt
      obtain ⟨c1, c1b⟩ := hc k e he
      obtain ⟨c2, c2b⟩ := hc2 k e he
      clear hc hc2 he r1 r2
      go_wp2
      refine wp_region_ord [(0, .q), (1, .q), (2, .q), (3, .q), (4, .q), (5, .q), (6, .q), (7, .q), (8, .g), (9, .q)] (by kernel_rfl) (by kernel_rfl) ?_
      simp only [pick, List.filterMap_cons, List.filterMap_nil, List.getElem?_toArray, List.getElem?_cons_zero, List.getElem?_cons_succ, Option.map_some]
      repeat (first
        | ((with_reducible refine wpD_p (fun K hK => ?_)); go_simp; refine hK _ ?_; clear hK K)
        | ((with_reducible refine wpD_q (fun K hK => ?_)); go_simp; (first | refine hK _ ?_ | (go_bits; refine hK _ ?_) | (go_bits; go_simp; refine hK _ ?_)); clear hK K)
        | ((with_reducible refine wpD_g (fun K hK => ?_)); go_simp; refine hK _ _ ?_; clear hK K)
        | ((with_reducible refine wpD_g (fun K hK => ?_)); go_simp; refine ⟨Grew.of_alloc _, hK _ _ ?_⟩; clear hK K)
        | ((with_reducible refine wpD_g (fun K hK => ?_)); go_simp; go_at_call 81; refine (eqGlue_same _ _ _).mono ?_; rintro e w1 ⟨rfl, hb1⟩; refine ⟨_, rfl, hb1, hK _ _ ?_⟩; clear hK K; obtain ⟨chb1, fhb1, shb1, thb1⟩ := bcell hb1; (try have bhb10 := shb1 (b) (by go_simp)); (try have bhb11 := shb1 (b2) (by go_simp))))
      with_reducible refine wpD_nil ?_
      go_wp2
      go_roundg (n - (k + 1))
      case measure => omega
      case rel => exact ⟨k + 1, by omega, by go_num, (by exact bel_)⟩
    · obtain rfl : k = n := by omega
      go_wp2
      go_ret
      exact ⟨rfl, hbw⟩

set_option maxHeartbeats 1000000 in
theorem eqPlacedS_same (A B : Option Addr) (n c d : Nat) (xs : List Pl) (w : World) (h1 : RdSl 3 RPl w A n xs) (h2 : RdSl 3 RPl w B n xs) (hn : n ≤ 1073741824) :
    Calls Tryz.prog 41 #[.slice A n c, .slice B n d] w fun e w' => e = .returned (.bool true) ∧ Below w.heap.size w w' := by
  
  go_enter Tryz.func41, Tryz.ntmps41
  go_wp2
  go_loopg [5] n (fun g i wr => ∃ k : Nat, k + g = n ∧ i = .int .i64 k ∧ Below w.heap.size w wr)
  case atStart => exact ⟨0, by omega, rfl, Below.refl _ _⟩
  case round =>
    obtain ⟨k, hk, rfl, hbw⟩ := hrel
    have r1 := h1.below RPl.stable hbw
    have r2 := h2.below RPl.stable hbw
    by_cases hlt : k < n
    · obtain ⟨b, o, rfl, hb, hc⟩ := r1.ptr (by omega)
      obtain ⟨b2, o2, rfl, hb2, hc2⟩ := r2.ptr (by omega)
      obtain ⟨e, he⟩ := h1.get hlt
      obtain ⟨c1, c1b, c1c⟩ := hc k e he
      obtain ⟨c2, c2b, c2c⟩ := hc2 k e he
      clear hc hc2 he r1 r2
      go_wp2
      refine wp_region_ord [(0, .q), (1, .q), (2, .q), (3, .q), (4, .q), (5, .q), (6, .q), (7, .q), (8, .g), (9, .q)] (by kernel_rfl) (by kernel_rfl) ?_
      simp only [pick, List.filterMap_cons, List.filterMap_nil, List.getElem?_toArray, List.getElem?_cons_zero, List.getElem?_cons_succ, Option.map_some]
      repeat (first
        | ((with_reducible refine wpD_p (fun K hK => ?_)); go_simp; refine hK _ ?_; clear hK K)
        | ((with_reducible refine wpD_q (fun K hK => ?_)); go_simp; (first | refine hK _ ?_ | (go_bits; refine hK _ ?_) | (go_bits; go_simp; refine hK _ ?_)); clear hK K)
        | ((with_reducible refine wpD_g (fun K hK => ?_)); go_simp; refine hK _ _ ?_; clear hK K)
        | ((with_reducible refine wpD_g (fun K hK => ?_)); go_simp; refine ⟨Grew.of_alloc _, hK _ _ ?_⟩; clear hK K)
        | ((with_reducible refine wpD_g (fun K hK => ?_)); go_simp; go_at_call 80; refine (eqPlaced_same _ _ _ _).mono ?_; rintro e w1 ⟨rfl, hb1⟩; refine ⟨_, rfl, hb1, hK _ _ ?_⟩; clear hK K; obtain ⟨chb1, fhb1, shb1, thb1⟩ := bcell hb1; (try have bhb10 := shb1 (b) (by go_simp)); (try have bhb11 := shb1 (b2) (by go_simp))))
      with_reducible refine wpD_nil ?_
      go_wp2
      go_roundg (n - (k + 1))
      case measure => omega
      case rel => exact ⟨k + 1, by omega, by go_num, (by exact bel_)⟩
    · obtain rfl : k = n := by omega
      go_wp2
      go_ret
      exact ⟨rfl, hbw⟩

set_option maxHeartbeats 1000000 in
theorem eqTile_same (s : ByteArray) (A B : Option Addr) (n c d : Nat) (xs : List Int) (w : World) (h1 : RdSl 1 RInt w A n xs) (h2 : RdSl 1 RInt w B n xs) (hn : n ≤ 1073741824) :
    Calls Tryz.prog 82 #[.agg #[.string s, .slice A n c], .agg #[.string s, .slice B n d]] w fun e w' => e = .returned (.bool true) ∧ Below w.heap.size w w' := by
  have hb0 : ∀ o1 o2, Below w.heap.size w ((w.alloc o1).alloc o2) := fun o1 o2 => bl_al (bl_al (bl_refl _) _) _
  
  go_enter Tryz.func82, Tryz.ntmps82
  go_wp2_with (go_at_call 126; refine (eqInt64S_same _ _ _ _ _ xs _ (h1.below RInt.stable (hb0 _ _)) (h2.below RInt.stable (hb0 _ _)) hn).mono ?_; rintro e w1 ⟨rfl, hb1⟩; obtain ⟨chb1, fhb1, shb1, thb1⟩ := bcell hb1; (try have bhb10 := shb1 (w.heap.size) (by go_simp)); (try have bhb11 := shb1 (w.heap.size + 1) (by go_simp)))
  go_ret
  refine ⟨rfl, ?_⟩
  exact bel_

set_option maxHeartbeats 1000000 in
theorem eqTileS_same (A B : Option Addr) (n c d : Nat) (xs : List Ti) (w : World) (h1 : RdSl 2 RTi w A n xs) (h2 : RdSl 2 RTi w B n xs) (hn : n ≤ 1073741824) (hx : ∀ e ∈ xs, e.sides.length ≤ 1073741824) :
    Calls Tryz.prog 43 #[.slice A n c, .slice B n d] w fun e w' => e = .returned (.bool true) ∧ Below w.heap.size w w' := by
  
  go_enter Tryz.func43, Tryz.ntmps43
  go_wp2
  go_loopg [5] n (fun g i wr => ∃ k : Nat, k + g = n ∧ i = .int .i64 k ∧ Below w.heap.size w wr)
  case atStart => exact ⟨0, by omega, rfl, Below.refl _ _⟩
  case round =>
    obtain ⟨k, hk, rfl, hbw⟩ := hrel
    have r1 := h1.below RTi.stable hbw
    have r2 := h2.below RTi.stable hbw
    by_cases hlt : k < n
    · obtain ⟨b, o, rfl, hb, hc⟩ := r1.ptr (by omega)
      obtain ⟨b2, o2, rfl, hb2, hc2⟩ := r2.ptr (by omega)
      obtain ⟨e, he⟩ := h1.get hlt
      obtain ⟨c1, A1, n1, d1, c1b, hs1⟩ := hc k e he
      obtain ⟨c2, A2, n2, d2, c2b, hs2⟩ := hc2 k e he
      obtain rfl : n1 = n2 := hs1.len.symm.trans hs2.len
      have hm : n1 ≤ 1073741824 := by rw [← hs1.len]; exact hx e (List.mem_of_getElem? he)
      have hs1 := hs1.below RInt.stable (bl_dr (bl_refl _))
      have hs2 := hs2.below RInt.stable (bl_dr (bl_refl _))
      clear hc hc2 he r1 r2
      go_wp2
      refine wp_region_ord [(0, .q), (1, .q), (2, .q), (3, .q), (4, .q), (5, .q), (6, .q), (7, .q), (8, .g), (9, .q)] (by kernel_rfl) (by kernel_rfl) ?_
      simp only [pick, List.filterMap_cons, List.filterMap_nil, List.getElem?_toArray, List.getElem?_cons_zero, List.getElem?_cons_succ, Option.map_some]
      repeat (first
        | ((with_reducible refine wpD_p (fun K hK => ?_)); go_simp; refine hK _ ?_; clear hK K)
        | ((with_reducible refine wpD_q (fun K hK => ?_)); go_simp; (first | refine hK _ ?_ | (go_bits; refine hK _ ?_) | (go_bits; go_simp; refine hK _ ?_)); clear hK K)
        | ((with_reducible refine wpD_g (fun K hK => ?_)); go_simp; refine hK _ _ ?_; clear hK K)
        | ((with_reducible refine wpD_g (fun K hK => ?_)); go_simp; refine ⟨Grew.of_alloc _, hK _ _ ?_⟩; clear hK K)
        | ((with_reducible refine wpD_g (fun K hK => ?_)); go_simp; go_at_call 82; refine (eqTile_same _ _ _ _ _ _ _ _ hs1 hs2 hm).mono ?_; rintro e w1 ⟨rfl, hb1⟩; refine ⟨_, rfl, hb1, hK _ _ ?_⟩; clear hK K; obtain ⟨chb1, fhb1, shb1, thb1⟩ := bcell hb1; (try have bhb10 := shb1 (b) (by go_simp)); (try have bhb11 := shb1 (b2) (by go_simp))))
      with_reducible refine wpD_nil ?_
      go_wp2
      go_roundg (n - (k + 1))
      case measure => omega
      case rel => exact ⟨k + 1, by omega, by go_num, (by exact bel_)⟩
    · obtain rfl : k = n := by omega
      go_wp2
      go_ret
      exact ⟨rfl, hbw⟩

theorem eqTileSet_same (A B A2 B2 : Option Addr) (n c d m c2 d2 : Nat) (gs : List Gl) (ts : List Ti) (w : World) (h1 : RdSl 2 RGl w A n gs) (h2 : RdSl 2 RGl w B n gs) (k1 : RdSl 2 RTi w A2 m ts) (k2 : RdSl 2 RTi w B2 m ts)
    (hn : n ≤ 1073741824) (hm : m ≤ 1073741824) (hx : ∀ e ∈ ts, e.sides.length ≤ 1073741824) :
    Calls Tryz.prog 14 #[.agg #[.slice A n c, .slice A2 m c2], .agg #[.slice B n d, .slice B2 m d2]] w fun e w' => e = .returned (.bool true) ∧ Below w.heap.size w w' := by
  have hb0 : ∀ o1 o2, Below w.heap.size w ((w.alloc o1).alloc o2) := fun o1 o2 => bl_al (bl_al (bl_refl _) _) _
  
  go_enter Tryz.func14, Tryz.ntmps14
  go_wp2_with (first | (go_at_call 42; refine (eqGlueS_same _ _ _ _ _ gs _ (h1.below RGl.stable (hb0 _ _)) (h2.below RGl.stable (hb0 _ _)) hn).mono ?_; rintro e w1 ⟨rfl, hb1⟩; obtain ⟨chb1, fhb1, shb1, thb1⟩ := bcell hb1; (try have bhb10 := shb1 (w.heap.size) (by go_simp)); (try have bhb11 := shb1 (w.heap.size + 1) (by go_simp))) | (go_at_call 43; refine (eqTileS_same _ _ _ _ _ ts _ (k1.below RTi.stable (bl_tr (hb0 _ _) hb1)) (k2.below RTi.stable (bl_tr (hb0 _ _) hb1)) hm hx).mono ?_; rintro e w2 ⟨rfl, hb2⟩; obtain ⟨chb2, fhb2, shb2, thb2⟩ := bcell hb2; (try have bhb20 := shb2 (w.heap.size) (by go_simp)); (try have bhb21 := shb2 (w.heap.size + 1) (by go_simp))))
  go_ret
  refine ⟨rfl, ?_⟩
  exact bel_
theorem eqAssembly_same (A B : Option Addr) (n c d : Nat) (xs : List Pl) (w : World) (h1 : RdSl 3 RPl w A n xs) (h2 : RdSl 3 RPl w B n xs) (hn : n ≤ 1073741824) :
    Calls Tryz.prog 13 #[.agg #[.slice A n c], .agg #[.slice B n d]] w fun e w' => e = .returned (.bool true) ∧ Below w.heap.size w w' := by
  have hb0 : ∀ o1 o2, Below w.heap.size w ((w.alloc o1).alloc o2) := fun o1 o2 => bl_al (bl_al (bl_refl _) _) _
  
  go_enter Tryz.func13, Tryz.ntmps13
  go_wp2_with (go_at_call 41; refine (eqPlacedS_same _ _ _ _ _ xs _ (h1.below RPl.stable (hb0 _ _)) (h2.below RPl.stable (hb0 _ _)) hn).mono ?_; rintro e w1 ⟨rfl, hb1⟩; obtain ⟨chb1, fhb1, shb1, thb1⟩ := bcell hb1; (try have bhb10 := shb1 (w.heap.size) (by go_simp)); (try have bhb11 := shb1 (w.heap.size + 1) (by go_simp)))
  go_ret
  refine ⟨rfl, ?_⟩
  exact bel_
end Go.Proofs.YtedihnokcpnikaaGreat
/- Walk: the harness' comparison of rows of points. -/


namespace Go.Proofs.YtedihnokcpnikaaGreat
open Go.RowKit
attribute [local go_sem] BelowBy.cell BelowBy.cell_drew stillUpon givesUpon

set_option maxHeartbeats 1000000 in
theorem eqPointS_same (A B : Option Addr) (n c d : Nat) (xs : List Pt) (w : World) (h1 : RdSl 2 RPt w A n xs) (h2 : RdSl 2 RPt w B n xs) (hn : n ≤ 1073741824) :
    Calls Tryz.prog 20 #[.slice A n c, .slice B n d] w fun e w' => e = .returned (.bool true) ∧ Below w.heap.size w w' := by
  
  go_enter Tryz.func20, Tryz.ntmps20
  go_wp2
  go_loopg [5] n (fun g i wr => ∃ k : Nat, k + g = n ∧ i = .int .i64 k ∧ Below w.heap.size w wr)
  case atStart => exact ⟨0, by omega, rfl, Below.refl _ _⟩
  case round =>
    obtain ⟨k, hk, rfl, hbw⟩ := hrel
    have r1 := h1.below RPt.stable hbw
    have r2 := h2.below RPt.stable hbw
    by_cases hlt : k < n
    · obtain ⟨b, o, rfl, hb, hc⟩ := r1.ptr (by omega)
      obtain ⟨b2, o2, rfl, hb2, hc2⟩ := r2.ptr (by omega)
      obtain ⟨e, he⟩ := h1.get hlt
      obtain ⟨c1, c1b⟩ := hc k e he
      obtain ⟨c2, c2b⟩ := hc2 k e he
      clear hc hc2 he r1 r2
      go_wp2
      refine wp_region_ord [(0, .q), (1, .q), (2, .q), (3, .q), (4, .q), (5, .q), (6, .q), (7, .q), (8, .g), (9, .q)] (by kernel_rfl) (by kernel_rfl) ?_
      simp only [pick, List.filterMap_cons, List.filterMap_nil, List.getElem?_toArray, List.getElem?_cons_zero, List.getElem?_cons_succ, Option.map_some]
      repeat (first
        | ((with_reducible refine wpD_p (fun K hK => ?_)); go_simp; refine hK _ ?_; clear hK K)
        | ((with_reducible refine wpD_q (fun K hK => ?_)); go_simp; (first | refine hK _ ?_ | (go_bits; refine hK _ ?_) | (go_bits; go_simp; refine hK _ ?_)); clear hK K)
        | ((with_reducible refine wpD_g (fun K hK => ?_)); go_simp; refine hK _ _ ?_; clear hK K)
        | ((with_reducible refine wpD_g (fun K hK => ?_)); go_simp; refine ⟨Grew.of_alloc _, hK _ _ ?_⟩; clear hK K)
        | ((with_reducible refine wpD_g (fun K hK => ?_)); go_simp; go_at_call 50; refine (eqPoint_same _ _ _).mono ?_; rintro e w1 ⟨rfl, hb1⟩; refine ⟨_, rfl, hb1, hK _ _ ?_⟩; clear hK K; obtain ⟨chb1, fhb1, shb1, thb1⟩ := bcell hb1; (try have bhb10 := shb1 (b) (by go_simp)); (try have bhb11 := shb1 (b2) (by go_simp))))
      with_reducible refine wpD_nil ?_
      go_wp2
      go_roundg (n - (k + 1))
      case measure => omega
      case rel => exact ⟨k + 1, by omega, by go_num, (by exact bel_)⟩
    · obtain rfl : k = n := by omega
      go_wp2
      go_ret
      exact ⟨rfl, hbw⟩
end Go.Proofs.YtedihnokcpnikaaGreat
/- Walks: the harness' marks on rows of points, what they leave, and what 'held' says of it. -/



namespace Go.Proofs.YtedihnokcpnikaaGreat
open Go.RowKit
attribute [local go_sem] BelowBy.cell BelowBy.cell_drew stillUpon givesUpon

set_option maxRecDepth 100000 in
set_option maxHeartbeats 2000000 in
theorem markPointS_zero (A : Option Addr) (c k : Nat) (w : World) :
    Calls Tryz.prog 21 #[.slice A 0 c, .int .i64 (k : Int)] w fun e w' => e = .returned (.int .i64 (k : Int)) ∧ w = w' := by
  go_enter Tryz.func21, Tryz.ntmps21
  go_wp2
  refine wp_loop_rounds 1 ?_
  rw [rounds_succ]
  go_wp2
  go_ret
  exact ⟨rfl, rfl⟩
set_option maxRecDepth 100000 in
set_option maxHeartbeats 2000000 in
theorem markPointS_core (g N n c k : Nat) (f0 : Nat → Value) (w : World) (hrow0 : w.rowIs g 44 N f0) (hN : n * 2 ≤ N) (hk : k + 2 * n ≤ 4611686018427387904) :
    Calls Tryz.prog 21 #[.slice (some ⟨g, 0, none⟩) n c, .int .i64 (k : Int)] w (MkCore 44 2 g N n k w (k + 2 * n)) := by
  have hg1 : g ≤ g := Nat.le_refl _
  have hg2 : g < g + 1 := Nat.lt_succ_self _
  go_enter Tryz.func21, Tryz.ntmps21
  go_wp2
  go_loopg [5, 1] n (fun r x kk wr => ∃ (i : Nat) (f : Nat → Value), i + r = n ∧ x = .int .i64 (i : Int) ∧ kk = .int .i64 ((k + 2 * i : Nat) : Int) ∧ wr.rowIs g 44 N f ∧ (∀ j, j < i * 2 → f j = .int .i64 ((k + j : Nat) : Int)) ∧ Mk g (g + 1) w wr)
  case atStart => exact ⟨0, f0, by omega, rfl, rfl, hrow0, fun j hj => by omega, Mk.refl _ _ _⟩
  case round =>
    obtain ⟨i, f, hi', rfl, rfl, hrow, hcont, hm⟩ := hrel
    have hcontH := Lib.hid hcont
    have hmH := Lib.hid hm
    clear hcont hm
    by_cases hlt : i < n
    · obtain ⟨j0, hj⟩ : ∃ j0, j0 = k + 2 * i := ⟨_, rfl⟩
      have hki : (0 : Int) ≤ (j0 : Int) := by omega
      have hki2 : (j0 : Int) + 2 < 4611686018427387910 := by omega
      have hjH := Lib.hid hj
      rw [← hj]
      clear hj
      have hc0 := hrow.cell (i := i * 2) (by omega)
      have hf0 := hrow.frozen (i * 2)
      have hc1 := hrow.cell (i := i * 2 + 1) (by omega)
      have hf1 := hrow.frozen (i * 2 + 1)
      have hrowH := Lib.hid hrow
      clear hrow
      go_wp2
      go_roundg (n - (i + 1))
      case measure => omega
      case rel => exact ⟨i + 1, _, by omega, by go_num, by (have := hjH.out; rw [show k + 2 * (i + 1) = j0 + 1 + 1 by omega]; go_num), ((hrowH.out.set (i * 2) _).set (i * 2 + 1) _), fun j hj => (by
        have hcont := hcontH.out
        have h0 := hjH.out
        rcases (show j < i * 2 ∨ j = i * 2 ∨ j = i * 2 + 1 by omega) with hjj | hjj | hjj
        · rw [if_neg (by omega), if_neg (by omega)]; exact hcont j hjj
        · rw [if_neg (by omega), if_pos (by omega)]; exact congrArg (Value.int IntKind.i64) (by have := hjH.out; omega)
        · rw [if_pos (by omega)]; exact congrArg (Value.int IntKind.i64) (by have := hjH.out; omega)), (((hmH.out).set (p := ⟨g, i * 2, none⟩) hg1 hg2 _).set (p := ⟨g, i * 2 + 1, none⟩) hg1 hg2 _)⟩
    · obtain rfl : i = n := by omega
      go_wp2
      go_ret
      exact ⟨rfl, hmH.out, f, hrow, hcontH.out⟩
theorem markPointS_c (A : Option Addr) (n c k lo hi : Nat) (w : World) (h : MkRow 44 2 lo hi w A n) (hh : hi ≤ w.heap.size) (hl : lo ≤ w.heap.size) (hk : k + 2 * n ≤ 4611686018427387904) :
    Calls Tryz.prog 21 #[.slice A n c, .int .i64 (k : Int)] w (MkResC 44 2 lo hi A n k w (k + 2 * n)) := by
  by_cases hn : n = 0
  · subst hn
    refine (markPointS_zero A c k w).mono ?_
    rintro e w' ⟨rfl, rfl⟩
    exact ⟨rfl, Mk.refl _ _ _, fun h => by omega⟩
  · obtain ⟨g, N, f0, rfl, hg1, hg2, hrow0, hN⟩ := h (by omega)
    refine (markPointS_core g N n c k f0 w hrow0 hN hk).mono ?_
    rintro e w' ⟨he, hm, f, hrow, hcont⟩
    exact ⟨he, hm.weaken hg1 (by omega), fun _ => ⟨g, N, f, rfl, hg1, hg2, hrow, hN, hcont⟩⟩
theorem markPointS_any (A : Option Addr) (n c k lo hi : Nat) (w : World) (h : MkRow 44 2 lo hi w A n) (hh : hi ≤ w.heap.size) (hl : lo ≤ w.heap.size) (hk : k + 2 * n ≤ 4611686018427387904) :
    Calls Tryz.prog 21 #[.slice A n c, .int .i64 (k : Int)] w (MkRes lo hi w (k + 2 * n)) :=
  (markPointS_c A n c k lo hi w h hh hl hk).mono fun _ _ h => ⟨h.1, h.2.1⟩

theorem markPointS_any2 (A : Option Addr) (n c k lo hi : Nat) (w : World) (h : MkRow 44 2 lo hi w A n) (hh : hi ≤ w.heap.size) (hl : lo ≤ w.heap.size) (hk : k + 2 * n ≤ 4611686018427387904) :
    Calls Tryz.prog 21 #[.slice A n c, .int .i64 (k : Int)] w (MkRes2 lo hi w k (k + 2 * n)) :=
  (markPointS_any A n c k lo hi w h hh hl hk).mono fun _ _ h => ⟨_, h.1, by omega, Nat.le_refl _, h.2⟩
theorem rdPts {W : World} {base : Nat} {A : Option Addr} {n c : Nat} {bs : List Pt} (h : W.ownsRow base 44 2 (.slice A n c) n (ptCells bs)) (hn : n = bs.length := by rfl) : RdSl 2 RPt W A n bs := by
  subst hn
  obtain ⟨A', cap, e, h'⟩ := rdPt_of_row h
  injection e with e1 e2 e3
  subst e1
  exact h'
set_option maxRecDepth 100000 in
set_option maxHeartbeats 2000000 in
theorem heldPointS_any (A : Option Addr) (n c k lo hi : Nat) (w : World) (h : Marked 44 2 lo hi w A n k) (hk : k + 2 * n ≤ 4611686018427387904) :
    Calls Tryz.prog 22 #[.slice A n c, .int .i64 (k : Int)] w fun e w' => e = .returned (.int .i64 ((k + 2 * n : Nat) : Int)) ∧ w = w' := by
  go_enter Tryz.func22, Tryz.ntmps22
  go_wp2
  go_loopg [5, 1] n (fun r x kk wr => ∃ i : Nat, i + r = n ∧ x = .int .i64 (i : Int) ∧ kk = .int .i64 ((k + 2 * i : Nat) : Int) ∧ w = wr)
  case atStart => exact ⟨0, by omega, rfl, rfl, rfl⟩
  case round =>
    obtain ⟨i, hi', rfl, rfl, rfl⟩ := hrel
    by_cases hlt : i < n
    · obtain ⟨j0, hj⟩ : ∃ j0, j0 = k + 2 * i := ⟨_, rfl⟩
      have hki : (0 : Int) ≤ (j0 : Int) := by omega
      have hki2 : (j0 : Int) + 2 < 4611686018427387910 := by omega
      have hjH := Lib.hid hj
      rw [← hj]
      obtain ⟨g, N, f, rfl, hg1, hg2, hrow, hN, hcont⟩ := h (by omega)
      have hc0 := hrow.cell (i := i * 2) (by omega)
      rw [hcont (i * 2) (by omega), show ((k + (i * 2) : Nat) : Int) = (j0 : Int) by omega] at hc0
      have hc1 := hrow.cell (i := i * 2 + 1) (by omega)
      rw [hcont (i * 2 + 1) (by omega), show ((k + (i * 2 + 1) : Nat) : Int) = (j0 : Int) + 1 by omega] at hc1
      clear hj hrow hcont h
      go_wp2
      go_roundg (n - (i + 1))
      case measure => omega
      case rel => exact ⟨i + 1, by omega, by go_num, by (have := hjH.out; rw [show k + 2 * (i + 1) = j0 + 1 + 1 by omega]; go_num), rfl⟩
    · obtain rfl : i = n := by omega
      go_wp2
      go_ret
      exact ⟨rfl, rfl⟩
end Go.Proofs.YtedihnokcpnikaaGreat
/- Walks: the harness' counting. -/


namespace Go.Proofs.YtedihnokcpnikaaGreat
open Go.RowKit
attribute [local go_sem] BelowBy.cell BelowBy.cell_drew stillUpon givesUpon

theorem szGlue_any (s : ByteArray) (t left : Int) (w : World) (h0 : 0 ≤ left) (h1 : left ≤ 1048576) (hs : s.size ≤ 9223372036854775807) :
    Calls Tryz.prog 59 #[.agg #[.string s, .int .i64 t], .int .i64 left] w (SzRes w left ((s.size : Int) ≤ left)) := by
  by_cases h : (s.size : Int) ≤ left
  · go_enter Tryz.func59, Tryz.ntmps59
    go_wp2
    go_ret
    exact ⟨_, rfl, .inr ⟨by omega, by omega, h⟩, bl_al (bl_refl _) _⟩
  · go_enter Tryz.func59, Tryz.ntmps59
    go_wp2
    go_ret
    exact ⟨_, rfl, .inl rfl, bl_al (bl_refl _) _⟩
theorem szInt64S_any (A : Option Addr) (n c : Nat) (left : Int) (w : World) (h0 : 0 ≤ left) (h1 : left ≤ 1048576) (hs : n ≤ 9223372036854775807) :
    Calls Tryz.prog 105 #[.slice A n c, .int .i64 left] w (SzRes w left ((n : Int) ≤ left)) := by
  by_cases h : (n : Int) ≤ left
  · go_enter Tryz.func105, Tryz.ntmps105
    go_wp2
    go_ret
    exact ⟨_, rfl, .inr ⟨by omega, by omega, h⟩, bl_refl _⟩
  · go_enter Tryz.func105, Tryz.ntmps105
    go_wp2
    go_ret
    exact ⟨_, rfl, .inl rfl, bl_refl _⟩
theorem szPlacedS_any (A : Option Addr) (n c : Nat) (left : Int) (w : World) (h0 : 0 ≤ left) (h1 : left ≤ 1048576) (hs : n ≤ 9223372036854775807) :
    Calls Tryz.prog 32 #[.slice A n c, .int .i64 left] w (SzRes w left ((n : Int) ≤ left)) := by
  by_cases h : (n : Int) ≤ left
  · go_enter Tryz.func32, Tryz.ntmps32
    go_wp2
    go_ret
    exact ⟨_, rfl, .inr ⟨by omega, by omega, h⟩, bl_refl _⟩
  · go_enter Tryz.func32, Tryz.ntmps32
    go_wp2
    go_ret
    exact ⟨_, rfl, .inl rfl, bl_refl _⟩
theorem szAssembly_any (A : Option Addr) (n c : Nat) (left : Int) (w : World) (h0 : 0 ≤ left) (h1 : left ≤ 1048576) (hs : n ≤ 9223372036854775807) :
    Calls Tryz.prog 7 #[.agg #[.slice A n c], .int .i64 left] w (SzRes w left ((n : Int) ≤ left)) := by
  go_enter Tryz.func7, Tryz.ntmps7
  go_wp2_with (go_at_call 32; refine (szPlacedS_any _ _ _ _ _ h0 h1 hs).mono ?_; rintro e w1 ⟨r, rfl, (rfl | ⟨hr0, hr1, hr2⟩), hb1⟩)
  · go_ret
    exact ⟨_, rfl, .inl rfl, bl_tr (bl_al (bl_refl _) _) hb1⟩
  · go_wp2
    go_ret
    exact ⟨_, rfl, .inr ⟨hr0, hr1, hr2⟩, bl_tr (bl_al (bl_refl _) _) hb1⟩
theorem szTile_any (s : ByteArray) (A : Option Addr) (n c : Nat) (left : Int) (w : World) (h0 : 0 ≤ left) (h1 : left ≤ 1048576) (hs : s.size ≤ 9223372036854775807) (hn : n ≤ 9223372036854775807) :
    Calls Tryz.prog 60 #[.agg #[.string s, .slice A n c], .int .i64 left] w (SzRes w left ((s.size : Int) ≤ left ∧ (n : Int) ≤ left)) := by
  by_cases h : (s.size : Int) ≤ left
  · go_enter Tryz.func60, Tryz.ntmps60
    go_wp2_with (go_at_call 105; refine (szInt64S_any _ _ _ _ _ (by omega) (by omega) hn).mono ?_; rintro e w1 ⟨r, rfl, (rfl | ⟨hr0, hr1, hr2⟩), hb1⟩)
    · go_ret
      exact ⟨_, rfl, .inl rfl, bl_tr (bl_al (bl_refl _) _) hb1⟩
    · go_wp2
      go_ret
      exact ⟨_, rfl, .inr ⟨hr0, by omega, h, by omega⟩, bl_tr (bl_al (bl_refl _) _) hb1⟩
  · go_enter Tryz.func60, Tryz.ntmps60
    go_wp2
    go_ret
    exact ⟨_, rfl, .inl rfl, bl_al (bl_refl _) _⟩

set_option maxHeartbeats 1000000 in
theorem szGlueS_any (A : Option Addr) (n c : Nat) (xs : List Gl) (left : Int) (w : World) (h : RdSl 2 RGl w A n xs) (h0 : 0 ≤ left) (h1 : left ≤ 1048576) (hn : n ≤ 9223372036854775807) (hx : ∀ e ∈ xs, e.name.size ≤ 9223372036854775807) :
    Calls Tryz.prog 30 #[.slice A n c, .int .i64 left] w (SzRes w left ((n : Int) ≤ left ∧ ∀ e ∈ xs, (e.name.size : Int) ≤ left)) := by
  by_cases hle : (n : Int) ≤ left
  · go_enter Tryz.func30, Tryz.ntmps30
    go_wp2
    go_loopg [1, 5] n (fun g l i wr => ∃ (k : Nat) (L : Int), k + g = n ∧ i = .int .i64 k ∧ l = .int .i64 L ∧ 0 ≤ L ∧ L ≤ left ∧ (∀ j e, j < k → xs[j]? = some e → (e.name.size : Int) ≤ left) ∧ Below w.heap.size w wr)
    case atStart => exact ⟨0, _, by omega, rfl, rfl, by omega, by omega, fun j e hj => by omega, Below.refl _ _⟩
    case round =>
      obtain ⟨k, L, hk, rfl, rfl, hL0, hL1, hok, hbw⟩ := hrel
      have r1 := h.below RGl.stable hbw
      by_cases hlt : k < n
      · obtain ⟨b, o, rfl, hb, hc⟩ := r1.ptr (by omega)
        obtain ⟨e, he⟩ := h.get hlt
        have HE := Lib.hid he
        obtain ⟨c1, c1b⟩ := hc k e he
        clear hc he r1
        go_wp2_with (go_at_call 59; refine (szGlue_any _ _ _ _ hL0 (by omega) (hx _ (List.mem_of_getElem? HE.out))).mono ?_; rintro e' w1 ⟨r, rfl, (rfl | ⟨hr0, hr1, hr2⟩), hb1⟩)
        · go_ret
          exact ⟨_, rfl, .inl rfl, bl_tr hbw hb1⟩
        · go_wp2
          go_roundg (n - (k + 1))
          case measure => omega
          case rel => exact ⟨k + 1, _, by omega, by go_num, rfl, by omega, by omega, fun j e' hj he' => (by
            rcases Nat.lt_succ_iff_lt_or_eq.1 hj with hj | rfl
            · exact hok j e' hj he'
            · obtain rfl := Option.some.inj (HE.out.symm.trans he'); omega), bl_tr hbw hb1⟩
      · obtain rfl : k = n := by omega
        go_wp2
        go_ret
        exact ⟨_, rfl, .inr ⟨hL0, hL1, hle, fun e he => by
          obtain ⟨j, hj, rfl⟩ := List.mem_iff_getElem.1 he
          exact hok j _ (by have := h.len; omega) (List.getElem?_eq_getElem hj)⟩, hbw⟩
  · go_enter Tryz.func30, Tryz.ntmps30
    go_wp2
    go_ret
    exact ⟨_, rfl, .inl rfl, bl_refl _⟩

set_option maxHeartbeats 1000000 in
theorem szTileS_any (A : Option Addr) (n c : Nat) (xs : List Ti) (left : Int) (w : World) (h : RdSl 2 RTi w A n xs) (h0 : 0 ≤ left) (h1 : left ≤ 1048576) (hn : n ≤ 9223372036854775807) (hx : ∀ e ∈ xs, e.name.size ≤ 9223372036854775807 ∧ e.sides.length ≤ 9223372036854775807) :
    Calls Tryz.prog 31 #[.slice A n c, .int .i64 left] w (SzRes w left ((n : Int) ≤ left ∧ ∀ e ∈ xs, (e.name.size : Int) ≤ left ∧ (e.sides.length : Int) ≤ left)) := by
  by_cases hle : (n : Int) ≤ left
  · go_enter Tryz.func31, Tryz.ntmps31
    go_wp2
    go_loopg [1, 5] n (fun g l i wr => ∃ (k : Nat) (L : Int), k + g = n ∧ i = .int .i64 k ∧ l = .int .i64 L ∧ 0 ≤ L ∧ L ≤ left ∧ (∀ j e, j < k → xs[j]? = some e → (e.name.size : Int) ≤ left ∧ (e.sides.length : Int) ≤ left) ∧ Below w.heap.size w wr)
    case atStart => exact ⟨0, _, by omega, rfl, rfl, by omega, by omega, fun j e hj => by omega, Below.refl _ _⟩
    case round =>
      obtain ⟨k, L, hk, rfl, rfl, hL0, hL1, hok, hbw⟩ := hrel
      have r1 := h.below RTi.stable hbw
      by_cases hlt : k < n
      · obtain ⟨b, o, rfl, hb, hc⟩ := r1.ptr (by omega)
        obtain ⟨e, he⟩ := h.get hlt
        have HE := Lib.hid he
        obtain ⟨c1, A1, n1, d1, c1b, hs1⟩ := hc k e he
        have HL := Lib.hid hs1.len
        have hn1 : n1 ≤ 9223372036854775807 := by rw [← hs1.len]; exact (hx e (List.mem_of_getElem? he)).2
        clear hs1
        clear hc he r1
        go_wp2_with (go_at_call 60; refine (szTile_any _ _ _ _ _ _ hL0 (by omega) (hx _ (List.mem_of_getElem? HE.out)).1 hn1).mono ?_; rintro e' w1 ⟨r, rfl, (rfl | ⟨hr0, hr1, hr2⟩), hb1⟩)
        · go_ret
          exact ⟨_, rfl, .inl rfl, bl_tr hbw hb1⟩
        · go_wp2
          go_roundg (n - (k + 1))
          case measure => omega
          case rel => exact ⟨k + 1, _, by omega, by go_num, rfl, by omega, by omega, fun j e' hj he' => (by
            rcases Nat.lt_succ_iff_lt_or_eq.1 hj with hj | rfl
            · exact hok j e' hj he'
            · obtain rfl := Option.some.inj (HE.out.symm.trans he'); rw [HL.out]; omega), bl_tr hbw hb1⟩
      · obtain rfl : k = n := by omega
        go_wp2
        go_ret
        exact ⟨_, rfl, .inr ⟨hL0, hL1, hle, fun e he => by
          obtain ⟨j, hj, rfl⟩ := List.mem_iff_getElem.1 he
          exact hok j _ (by have := h.len; omega) (List.getElem?_eq_getElem hj)⟩, hbw⟩
  · go_enter Tryz.func31, Tryz.ntmps31
    go_wp2
    go_ret
    exact ⟨_, rfl, .inl rfl, bl_refl _⟩

theorem szTileSet_any (A B : Option Addr) (n c m d : Nat) (gs : List Gl) (ts : List Ti) (left : Int) (w : World) (h : RdSl 2 RGl w A n gs) (k : RdSl 2 RTi w B m ts) (h0 : 0 ≤ left) (h1 : left ≤ 1048576) (hn : n ≤ 9223372036854775807) (hm : m ≤ 9223372036854775807)
    (hx : ∀ e ∈ gs, e.name.size ≤ 9223372036854775807) (hy : ∀ e ∈ ts, e.name.size ≤ 9223372036854775807 ∧ e.sides.length ≤ 9223372036854775807) :
    Calls Tryz.prog 6 #[.agg #[.slice A n c, .slice B m d], .int .i64 left] w (SzRes w left (((n : Int) ≤ left ∧ ∀ e ∈ gs, (e.name.size : Int) ≤ left) ∧ ((m : Int) ≤ left ∧ ∀ e ∈ ts, (e.name.size : Int) ≤ left ∧ (e.sides.length : Int) ≤ left))) := by
  have hb0 : ∀ o1, Below w.heap.size w (w.alloc o1) := fun o1 => bl_al (bl_refl _) _
  go_enter Tryz.func6, Tryz.ntmps6
  go_wp2_with (go_at_call 30; refine (szGlueS_any _ _ _ gs _ _ (h.below RGl.stable (hb0 _)) h0 h1 hn hx).mono ?_; rintro e w1 ⟨r, rfl, (rfl | ⟨hr0, hr1, hr2⟩), hb1⟩; all_goals (obtain ⟨cb1, fb1, sb1, tb1⟩ := bcell hb1; have bb1 := sb1 w.heap.size (by go_simp)))
  · go_ret
    exact ⟨_, rfl, .inl rfl, bl_tr (bl_al (bl_refl _) _) hb1⟩
  · have HR := Lib.hid hr2
    clear hr2
    go_wp2_with (go_at_call 31; refine (szTileS_any _ _ _ ts _ _ (k.below RTi.stable (bl_tr (hb0 _) hb1)) hr0 (by omega) hm hy).mono ?_; rintro e w2 ⟨r2, rfl, (rfl | ⟨hq0, hq1, hq2⟩), hb2⟩)
    · go_ret
      exact ⟨_, rfl, .inl rfl, bl_tr (bl_tr (bl_al (bl_refl _) _) hb1) hb2⟩
    · have HQ := Lib.hid hq2
      clear hq2
      go_wp2
      go_ret
      exact ⟨_, rfl, .inr ⟨hq0, by omega, HR.out, by have := HQ.out.1; omega, fun e he => by have := HQ.out.2 e he; omega⟩, bl_tr (bl_tr (bl_al (bl_refl _) _) hb1) hb2⟩
end Go.Proofs.YtedihnokcpnikaaGreat
