import Derived.Test.YtpnahobgmemdjaaGreatDoorW1
import Derived.Test.YtpnahobgmemdjaaGreatDoorBase2
set_option linter.unusedSimpArgs false
set_option linter.unusedVariables false
/- Walks: the harness' comparisons, where both sides read as the same list. -/


namespace Go.Proofs.YtpnahobgmemdjaaGreatDoor
open Go.RowKit
attribute [local go_sem] BelowBy.cell BelowBy.cell_drew stillUpon givesUpon

theorem eqGlue_same (s : ByteArray) (t : Int) (w : World) :
    Calls Tryz.prog 58 #[.agg #[.string s, .int .i64 t], .agg #[.string s, .int .i64 t]] w fun e w' => e = .returned (.bool true) ∧ Below w.heap.size w w' := by
  go_enter Tryz.func58, Tryz.ntmps58
  go_wp2
  go_ret
  exact ⟨rfl, bl_al (bl_al (bl_refl _) _) _⟩
theorem eqPoint_same (x y : Int) (w : World) :
    Calls Tryz.prog 71 #[.agg #[.int .i64 x, .int .i64 y], .agg #[.int .i64 x, .int .i64 y]] w fun e w' => e = .returned (.bool true) ∧ Below w.heap.size w w' := by
  go_enter Tryz.func71, Tryz.ntmps71
  go_wp2
  go_ret
  exact ⟨rfl, bl_al (bl_al (bl_refl _) _) _⟩
theorem eqPlaced_same (x y t : Int) (w : World) :
    Calls Tryz.prog 60 #[.agg #[.int .i64 x, .int .i64 y, .int .i64 t], .agg #[.int .i64 x, .int .i64 y, .int .i64 t]] w fun e w' => e = .returned (.bool true) ∧ Below w.heap.size w w' := by
  
  go_enter Tryz.func60, Tryz.ntmps60
  go_wp2_with (go_at_call 71; refine (eqPoint_same _ _ _).mono ?_; rintro e w1 ⟨rfl, hb1⟩; obtain ⟨chb1, fhb1, shb1, thb1⟩ := bcell hb1; (try have bhb10 := shb1 (w.heap.size) (by go_simp)); (try have bhb11 := shb1 (w.heap.size + 1) (by go_simp)))
  go_ret
  refine ⟨rfl, ?_⟩
  exact bel_

set_option maxHeartbeats 1000000 in
theorem eqInt64S_same (A B : Option Addr) (n c d : Nat) (xs : List Int) (w : World) (h1 : RdSl 1 RInt w A n xs) (h2 : RdSl 1 RInt w B n xs) (hn : n ≤ 1073741824) :
    Calls Tryz.prog 70 #[.slice A n c, .slice B n d] w fun e w' => e = .returned (.bool true) ∧ Below w.heap.size w w' := by
  
  go_enter Tryz.func70, Tryz.ntmps70
  go_wp2
  go_loopg [5] n (fun g i wr => ∃ k : Nat, k + g = n ∧ i = .int .i64 k ∧ Below w.heap.size w wr)
  case atStart => exact ⟨0, by omega, rfl, Below.refl _ _⟩
  case round =>
    obtain ⟨k, hk, rfl, hbw⟩ := hrel
    have r1 := h1.below RInt.stable hbw
    have r2 := h2.below RInt.stable hbw
    by_cases hlt : k < n
    · obtain ⟨b, o, rfl, hb, hc⟩ := r1.ptr (by omega)
      obtain ⟨b2, o2, rfl, hb2, hc2⟩ := r2.ptr (by omega)
      obtain ⟨e, he⟩ := h1.get hlt
      have c1 := hc k e he
      have c2 := hc2 k e he
      unfold RInt at c1 c2
      simp only [Nat.mul_one] at c1 c2
      clear hc hc2 he r1 r2
      go_wp2
      refine wp_region_ord [(0, .q), (1, .q), (2, .q), (3, .q), (4, .q), (5, .q), (6, .q), (7, .q), (8, .q)] (by kernel_rfl) (by kernel_rfl) ?_
      simp only [pick, List.filterMap_cons, List.filterMap_nil, List.getElem?_toArray, List.getElem?_cons_zero, List.getElem?_cons_succ, Option.map_some]
      repeat (first
        | ((with_reducible refine wpD_p (fun K hK => ?_)); go_simp; refine hK _ ?_; clear hK K)
        | ((with_reducible refine wpD_q (fun K hK => ?_)); go_simp; (first | refine hK _ ?_ | (go_bits; refine hK _ ?_) | (go_bits; go_simp; refine hK _ ?_)); clear hK K)
        | ((with_reducible refine wpD_g (fun K hK => ?_)); go_simp; refine hK _ _ ?_; clear hK K)
        | ((with_reducible refine wpD_g (fun K hK => ?_)); go_simp; refine ⟨Grew.of_alloc _, hK _ _ ?_⟩; clear hK K))
      with_reducible refine wpD_nil ?_
      go_wp2
      go_roundg (n - (k + 1))
      case measure => omega
      case rel => exact ⟨k + 1, by omega, by go_num, (by exact bel_)⟩
    · obtain rfl : k = n := by omega
      go_wp2
      go_ret
      exact ⟨rfl, hbw⟩

set_option maxHeartbeats 1000000 in
theorem eqGlueS_same (A B : Option Addr) (n c d : Nat) (xs : List Gl) (w : World) (h1 : RdSl 2 RGl w A n xs) (h2 : RdSl 2 RGl w B n xs) (hn : n ≤ 1073741824) :
    Calls Tryz.prog 39 #[.slice A n c, .slice B n d] w fun e w' => e = .returned (.bool true) ∧ Below w.heap.size w w' := by
  
  go_enter Tryz.func39, Tryz.ntmps39
  go_wp2
  go_loopg [5] n (fun g i wr => ∃ k : Nat, k + g = n ∧ i = .int .i64 k ∧ Below w.heap.size w wr)
  case atStart => exact ⟨0, by omega, rfl, Below.refl _ _⟩
  case round =>
    obtain ⟨k, hk, rfl, hbw⟩ := hrel
    have r1 := h1.below RGl.stable hbw
    have r2 := h2.below RGl.stable hbw
    by_cases hlt : k < n
    · obtain ⟨b, o, rfl, hb, hc⟩ := r1.ptr (by omega)
      obtain ⟨b2, o2, rfl, hb2, hc2⟩ := r2.ptr (by omega)
      obtain ⟨e, he⟩ := h1.get hlt
      obtain ⟨c1, c1b⟩ := hc k e he
      obtain ⟨c2, c2b⟩ := hc2 k e he
      clear hc hc2 he r1 r2
      go_wp2
      refine wp_region_ord [(0, .q), (1, .q), (2, .q), (3, .q), (4, .q), (5, .q), (6, .q), (7, .q), (8, .g), (9, .q)] (by kernel_rfl) (by kernel_rfl) ?_
      simp only [pick, List.filterMap_cons, List.filterMap_nil, List.getElem?_toArray, List.getElem?_cons_zero, List.getElem?_cons_succ, Option.map_some]
      repeat (first
        | ((with_reducible refine wpD_p (fun K hK => ?_)); go_simp; refine hK _ ?_; clear hK K)
        | ((with_reducible refine wpD_q (fun K hK => ?_)); go_simp; (first | refine hK _ ?_ | (go_bits; refine hK _ ?_) | (go_bits; go_simp; refine hK _ ?_)); clear hK K)
        | ((with_reducible refine wpD_g (fun K hK => ?_)); go_simp; refine hK _ _ ?_; clear hK K)
        | ((with_reducible refine wpD_g (fun K hK => ?_)); go_simp; refine ⟨Grew.of_alloc _, hK _ _ ?_⟩; clear hK K)
        | ((with_reducible refine wpD_g (fun K hK => ?_)); go_simp; go_at_call 58; refine (eqGlue_same _ _ _).mono ?_; rintro e w1 ⟨rfl, hb1⟩; refine ⟨_, rfl, hb1, hK _ _ ?_⟩; clear hK K; obtain ⟨chb1, fhb1, shb1, thb1⟩ := bcell hb1; (try have bhb10 := shb1 (b) (by go_simp)); (try have bhb11 := shb1 (b2) (by go_simp))))
      with_reducible refine wpD_nil ?_
      go_wp2
      go_roundg (n - (k + 1))
      case measure => omega
      case rel => exact ⟨k + 1, by omega, by go_num, (by exact bel_)⟩
    · obtain rfl : k = n := by omega
      go_wp2
      go_ret
      exact ⟨rfl, hbw⟩

set_option maxHeartbeats 1000000 in
theorem eqPlacedS_same (A B : Option Addr) (n c d : Nat) (xs : List Pl) (w : World) (h1 : RdSl 3 RPl w A n xs) (h2 : RdSl 3 RPl w B n xs) (hn : n ≤ 1073741824) :
    Calls Tryz.prog 41 #[.slice A n c, .slice B n d] w fun e w' => e = .returned (.bool true) ∧ Below w.heap.size w w' := by
  
  go_enter Tryz.func41, Tryz.ntmps41
  go_wp2
  go_loopg [5] n (fun g i wr => ∃ k : Nat, k + g = n ∧ i = .int .i64 k ∧ Below w.heap.size w wr)
  case atStart => exact ⟨0, by omega, rfl, Below.refl _ _⟩
  case round =>
    obtain ⟨k, hk, rfl, hbw⟩ := hrel
    have r1 := h1.below RPl.stable hbw
    have r2 := h2.below RPl.stable hbw
    by_cases hlt : k < n
    · obtain ⟨b, o, rfl, hb, hc⟩ := r1.ptr (by omega)
      obtain ⟨b2, o2, rfl, hb2, hc2⟩ := r2.ptr (by omega)
      obtain ⟨e, he⟩ := h1.get hlt
      obtain ⟨c1, c1b, c1c⟩ := hc k e he
      obtain ⟨c2, c2b, c2c⟩ := hc2 k e he
      clear hc hc2 he r1 r2
      go_wp2
      refine wp_region_ord [(0, .q), (1, .q), (2, .q), (3, .q), (4, .q), (5, .q), (6, .q), (7, .q), (8, .g), (9, .q)] (by kernel_rfl) (by kernel_rfl) ?_
      simp only [pick, List.filterMap_cons, List.filterMap_nil, List.getElem?_toArray, List.getElem?_cons_zero, List.getElem?_cons_succ, Option.map_some]
      repeat (first
        | ((with_reducible refine wpD_p (fun K hK => ?_)); go_simp; refine hK _ ?_; clear hK K)
        | ((with_reducible refine wpD_q (fun K hK => ?_)); go_simp; (first | refine hK _ ?_ | (go_bits; refine hK _ ?_) | (go_bits; go_simp; refine hK _ ?_)); clear hK K)
        | ((with_reducible refine wpD_g (fun K hK => ?_)); go_simp; refine hK _ _ ?_; clear hK K)
        | ((with_reducible refine wpD_g (fun K hK => ?_)); go_simp; refine ⟨Grew.of_alloc _, hK _ _ ?_⟩; clear hK K)
        | ((with_reducible refine wpD_g (fun K hK => ?_)); go_simp; go_at_call 60; refine (eqPlaced_same _ _ _ _).mono ?_; rintro e w1 ⟨rfl, hb1⟩; refine ⟨_, rfl, hb1, hK _ _ ?_⟩; clear hK K; obtain ⟨chb1, fhb1, shb1, thb1⟩ := bcell hb1; (try have bhb10 := shb1 (b) (by go_simp)); (try have bhb11 := shb1 (b2) (by go_simp))))
      with_reducible refine wpD_nil ?_
      go_wp2
      go_roundg (n - (k + 1))
      case measure => omega
      case rel => exact ⟨k + 1, by omega, by go_num, (by exact bel_)⟩
    · obtain rfl : k = n := by omega
      go_wp2
      go_ret
      exact ⟨rfl, hbw⟩

set_option maxHeartbeats 1000000 in
theorem eqTile_same (s : ByteArray) (A B : Option Addr) (n c d : Nat) (xs : List Int) (w : World) (h1 : RdSl 1 RInt w A n xs) (h2 : RdSl 1 RInt w B n xs) (hn : n ≤ 1073741824) :
    Calls Tryz.prog 59 #[.agg #[.string s, .slice A n c], .agg #[.string s, .slice B n d]] w fun e w' => e = .returned (.bool true) ∧ Below w.heap.size w w' := by
  have hb0 : ∀ o1 o2, Below w.heap.size w ((w.alloc o1).alloc o2) := fun o1 o2 => bl_al (bl_al (bl_refl _) _) _
  
  go_enter Tryz.func59, Tryz.ntmps59
  go_wp2_with (go_at_call 70; refine (eqInt64S_same _ _ _ _ _ xs _ (h1.below RInt.stable (hb0 _ _)) (h2.below RInt.stable (hb0 _ _)) hn).mono ?_; rintro e w1 ⟨rfl, hb1⟩; obtain ⟨chb1, fhb1, shb1, thb1⟩ := bcell hb1; (try have bhb10 := shb1 (w.heap.size) (by go_simp)); (try have bhb11 := shb1 (w.heap.size + 1) (by go_simp)))
  go_ret
  refine ⟨rfl, ?_⟩
  exact bel_

set_option maxHeartbeats 1000000 in
theorem eqTileS_same (A B : Option Addr) (n c d : Nat) (xs : List Ti) (w : World) (h1 : RdSl 2 RTi w A n xs) (h2 : RdSl 2 RTi w B n xs) (hn : n ≤ 1073741824) (hx : ∀ e ∈ xs, e.sides.length ≤ 1073741824) :
    Calls Tryz.prog 40 #[.slice A n c, .slice B n d] w fun e w' => e = .returned (.bool true) ∧ Below w.heap.size w w' := by
  
  go_enter Tryz.func40, Tryz.ntmps40
  go_wp2
  go_loopg [5] n (fun g i wr => ∃ k : Nat, k + g = n ∧ i = .int .i64 k ∧ Below w.heap.size w wr)
  case atStart => exact ⟨0, by omega, rfl, Below.refl _ _⟩
  case round =>
    obtain ⟨k, hk, rfl, hbw⟩ := hrel
    have r1 := h1.below RTi.stable hbw
    have r2 := h2.below RTi.stable hbw
    by_cases hlt : k < n
    · obtain ⟨b, o, rfl, hb, hc⟩ := r1.ptr (by omega)
      obtain ⟨b2, o2, rfl, hb2, hc2⟩ := r2.ptr (by omega)
      obtain ⟨e, he⟩ := h1.get hlt
      obtain ⟨c1, A1, n1, d1, c1b, hs1⟩ := hc k e he
      obtain ⟨c2, A2, n2, d2, c2b, hs2⟩ := hc2 k e he
      obtain rfl : n1 = n2 := hs1.len.symm.trans hs2.len
      have hm : n1 ≤ 1073741824 := by rw [← hs1.len]; exact hx e (List.mem_of_getElem? he)
      have hs1 := hs1.below RInt.stable (bl_dr (bl_refl _))
      have hs2 := hs2.below RInt.stable (bl_dr (bl_refl _))
      clear hc hc2 he r1 r2
      go_wp2
      refine wp_region_ord [(0, .q), (1, .q), (2, .q), (3, .q), (4, .q), (5, .q), (6, .q), (7, .q), (8, .g), (9, .q)] (by kernel_rfl) (by kernel_rfl) ?_
      simp only [pick, List.filterMap_cons, List.filterMap_nil, List.getElem?_toArray, List.getElem?_cons_zero, List.getElem?_cons_succ, Option.map_some]
      repeat (first
        | ((with_reducible refine wpD_p (fun K hK => ?_)); go_simp; refine hK _ ?_; clear hK K)
        | ((with_reducible refine wpD_q (fun K hK => ?_)); go_simp; (first | refine hK _ ?_ | (go_bits; refine hK _ ?_) | (go_bits; go_simp; refine hK _ ?_)); clear hK K)
        | ((with_reducible refine wpD_g (fun K hK => ?_)); go_simp; refine hK _ _ ?_; clear hK K)
        | ((with_reducible refine wpD_g (fun K hK => ?_)); go_simp; refine ⟨Grew.of_alloc _, hK _ _ ?_⟩; clear hK K)
        | ((with_reducible refine wpD_g (fun K hK => ?_)); go_simp; go_at_call 59; refine (eqTile_same _ _ _ _ _ _ _ _ hs1 hs2 hm).mono ?_; rintro e w1 ⟨rfl, hb1⟩; refine ⟨_, rfl, hb1, hK _ _ ?_⟩; clear hK K; obtain ⟨chb1, fhb1, shb1, thb1⟩ := bcell hb1; (try have bhb10 := shb1 (b) (by go_simp)); (try have bhb11 := shb1 (b2) (by go_simp))))
      with_reducible refine wpD_nil ?_
      go_wp2
      go_roundg (n - (k + 1))
      case measure => omega
      case rel => exact ⟨k + 1, by omega, by go_num, (by exact bel_)⟩
    · obtain rfl : k = n := by omega
      go_wp2
      go_ret
      exact ⟨rfl, hbw⟩

theorem eqTileSet_same (A B A2 B2 : Option Addr) (n c d m c2 d2 : Nat) (gs : List Gl) (ts : List Ti) (w : World) (h1 : RdSl 2 RGl w A n gs) (h2 : RdSl 2 RGl w B n gs) (k1 : RdSl 2 RTi w A2 m ts) (k2 : RdSl 2 RTi w B2 m ts)
    (hn : n ≤ 1073741824) (hm : m ≤ 1073741824) (hx : ∀ e ∈ ts, e.sides.length ≤ 1073741824) :
    Calls Tryz.prog 19 #[.agg #[.slice A n c, .slice A2 m c2], .agg #[.slice B n d, .slice B2 m d2]] w fun e w' => e = .returned (.bool true) ∧ Below w.heap.size w w' := by
  have hb0 : ∀ o1 o2, Below w.heap.size w ((w.alloc o1).alloc o2) := fun o1 o2 => bl_al (bl_al (bl_refl _) _) _
  
  go_enter Tryz.func19, Tryz.ntmps19
  go_wp2_with (first | (go_at_call 39; refine (eqGlueS_same _ _ _ _ _ gs _ (h1.below RGl.stable (hb0 _ _)) (h2.below RGl.stable (hb0 _ _)) hn).mono ?_; rintro e w1 ⟨rfl, hb1⟩; obtain ⟨chb1, fhb1, shb1, thb1⟩ := bcell hb1; (try have bhb10 := shb1 (w.heap.size) (by go_simp)); (try have bhb11 := shb1 (w.heap.size + 1) (by go_simp))) | (go_at_call 40; refine (eqTileS_same _ _ _ _ _ ts _ (k1.below RTi.stable (bl_tr (hb0 _ _) hb1)) (k2.below RTi.stable (bl_tr (hb0 _ _) hb1)) hm hx).mono ?_; rintro e w2 ⟨rfl, hb2⟩; obtain ⟨chb2, fhb2, shb2, thb2⟩ := bcell hb2; (try have bhb20 := shb2 (w.heap.size) (by go_simp)); (try have bhb21 := shb2 (w.heap.size + 1) (by go_simp))))
  go_ret
  refine ⟨rfl, ?_⟩
  exact bel_
theorem eqAssembly_same (A B : Option Addr) (n c d : Nat) (xs : List Pl) (w : World) (h1 : RdSl 3 RPl w A n xs) (h2 : RdSl 3 RPl w B n xs) (hn : n ≤ 1073741824) :
    Calls Tryz.prog 20 #[.agg #[.slice A n c], .agg #[.slice B n d]] w fun e w' => e = .returned (.bool true) ∧ Below w.heap.size w w' := by
  have hb0 : ∀ o1 o2, Below w.heap.size w ((w.alloc o1).alloc o2) := fun o1 o2 => bl_al (bl_al (bl_refl _) _) _
  
  go_enter Tryz.func20, Tryz.ntmps20
  go_wp2_with (go_at_call 41; refine (eqPlacedS_same _ _ _ _ _ xs _ (h1.below RPl.stable (hb0 _ _)) (h2.below RPl.stable (hb0 _ _)) hn).mono ?_; rintro e w1 ⟨rfl, hb1⟩; obtain ⟨chb1, fhb1, shb1, thb1⟩ := bcell hb1; (try have bhb10 := shb1 (w.heap.size) (by go_simp)); (try have bhb11 := shb1 (w.heap.size + 1) (by go_simp)))
  go_ret
  refine ⟨rfl, ?_⟩
  exact bel_
end Go.Proofs.YtpnahobgmemdjaaGreatDoor
