/- Walks: the harness' comparisons of signal sets and cells, where both sides read as the same (printed by gen_sg.py). -/
import Derived.Test.YtbipnnjkddffbaaHEq
import Derived.Test.YtbipnnjkddffbaaSg1
namespace Go.Proofs.Ytbipnnjkddffbaa
open Go.RowKit
set_option linter.unusedSimpArgs false
set_option linter.unusedVariables false
attribute [local go_sem] BelowBy.cell BelowBy.cell_drew stillUpon givesUpon
set_option maxHeartbeats 1000000 in
theorem eqBoolS_same (A B : Option Addr) (n c d : Nat) (xs : List Bool) (w : World) (h1 : RdSl 1 RBool w A n xs) (h2 : RdSl 1 RBool w B n xs) (hn : n ≤ 1073741824) :
    Calls Try.prog 84 #[.slice A n c, .slice B n d] w fun e w' => e = .returned (.bool true) ∧ Below w.heap.size w w' := by
  
  go_enter Try.func84, Try.ntmps84
  go_wp2
  go_loopg [5] n (fun g i wr => ∃ k : Nat, k + g = n ∧ i = .int .i64 k ∧ Below w.heap.size w wr)
  case atStart => exact ⟨0, by omega, rfl, Below.refl _ _⟩
  case round =>
    obtain ⟨k, hk, rfl, hbw⟩ := hrel
    have r1 := h1.below RBool.stable hbw
    have r2 := h2.below RBool.stable hbw
    by_cases hlt : k < n
    · obtain ⟨b, o, rfl, hb, hc⟩ := r1.ptr (by omega)
      obtain ⟨b2, o2, rfl, hb2, hc2⟩ := r2.ptr (by omega)
      obtain ⟨e, he⟩ := h1.get hlt
      have c1 := hc k e he
      have c2 := hc2 k e he
      unfold RBool at c1 c2
      simp only [Nat.mul_one] at c1 c2
      clear hc hc2 he r1 r2
      go_wp2
      refine wp_region_ord [(0, .q), (1, .q), (2, .q), (3, .q), (4, .q), (5, .q), (6, .q), (7, .q), (8, .q)] (by kernel_rfl) (by kernel_rfl) ?_
      simp only [pick, List.filterMap_cons, List.filterMap_nil, List.getElem?_toArray, List.getElem?_cons_zero, List.getElem?_cons_succ, Option.map_some]
      repeat (first
        | ((with_reducible refine wpD_p (fun K hK => ?_)); go_simp; refine hK _ ?_; clear hK K)
        | ((with_reducible refine wpD_q (fun K hK => ?_)); go_simp; (first | refine hK _ ?_ | (go_bits; refine hK _ ?_) | (go_bits; go_simp; refine hK _ ?_)); clear hK K)
        | ((with_reducible refine wpD_g (fun K hK => ?_)); go_simp; refine hK _ _ ?_; clear hK K)
        | ((with_reducible refine wpD_g (fun K hK => ?_)); go_simp; refine ⟨Grew.of_alloc _, hK _ _ ?_⟩; clear hK K))
      with_reducible refine wpD_nil ?_
      go_wp2
      go_roundg (n - (k + 1))
      case measure => omega
      case rel => exact ⟨k + 1, by omega, by go_num, (by exact bel_)⟩
    · obtain rfl : k = n := by omega
      go_wp2
      go_ret
      exact ⟨rfl, hbw⟩
theorem eqFire_same (x y : Int) (w : World) :
    Calls Try.prog 154 #[.agg #[.int .i64 x, .int .i64 y], .agg #[.int .i64 x, .int .i64 y]] w fun e w' => e = .returned (.bool true) ∧ Below w.heap.size w w' := by
  go_enter Try.func154, Try.ntmps154
  go_wp2
  go_ret
  exact ⟨rfl, bl_al (bl_al (bl_refl _) _) _⟩
set_option maxHeartbeats 1000000 in
theorem eqFireS_same (A B : Option Addr) (n c d : Nat) (xs : List Fi) (w : World) (h1 : RdSl 2 RFi w A n xs) (h2 : RdSl 2 RFi w B n xs) (hn : n ≤ 1073741824) :
    Calls Try.prog 133 #[.slice A n c, .slice B n d] w fun e w' => e = .returned (.bool true) ∧ Below w.heap.size w w' := by
  
  go_enter Try.func133, Try.ntmps133
  go_wp2
  go_loopg [5] n (fun g i wr => ∃ k : Nat, k + g = n ∧ i = .int .i64 k ∧ Below w.heap.size w wr)
  case atStart => exact ⟨0, by omega, rfl, Below.refl _ _⟩
  case round =>
    obtain ⟨k, hk, rfl, hbw⟩ := hrel
    have r1 := h1.below RFi.stable hbw
    have r2 := h2.below RFi.stable hbw
    by_cases hlt : k < n
    · obtain ⟨b, o, rfl, hb, hc⟩ := r1.ptr (by omega)
      obtain ⟨b2, o2, rfl, hb2, hc2⟩ := r2.ptr (by omega)
      obtain ⟨e, he⟩ := h1.get hlt
      obtain ⟨c1, c1b⟩ := hc k e he
      obtain ⟨c2, c2b⟩ := hc2 k e he
      clear hc hc2 he r1 r2
      go_wp2
      refine wp_region_ord [(0, .q), (1, .q), (2, .q), (3, .q), (4, .q), (5, .q), (6, .q), (7, .q), (8, .g), (9, .q)] (by kernel_rfl) (by kernel_rfl) ?_
      simp only [pick, List.filterMap_cons, List.filterMap_nil, List.getElem?_toArray, List.getElem?_cons_zero, List.getElem?_cons_succ, Option.map_some]
      repeat (first
        | ((with_reducible refine wpD_p (fun K hK => ?_)); go_simp; refine hK _ ?_; clear hK K)
        | ((with_reducible refine wpD_q (fun K hK => ?_)); go_simp; (first | refine hK _ ?_ | (go_bits; refine hK _ ?_) | (go_bits; go_simp; refine hK _ ?_)); clear hK K)
        | ((with_reducible refine wpD_g (fun K hK => ?_)); go_simp; refine hK _ _ ?_; clear hK K)
        | ((with_reducible refine wpD_g (fun K hK => ?_)); go_simp; refine ⟨Grew.of_alloc _, hK _ _ ?_⟩; clear hK K)
        | ((with_reducible refine wpD_g (fun K hK => ?_)); go_simp; go_at_call 154; refine (eqFire_same _ _ _).mono ?_; rintro e w1 ⟨rfl, hb1⟩; refine ⟨_, rfl, hb1, hK _ _ ?_⟩; clear hK K; obtain ⟨chb1, fhb1, shb1, thb1⟩ := bcell hb1; (try have bhb10 := shb1 (b) (by go_simp)); (try have bhb11 := shb1 (b2) (by go_simp))))
      with_reducible refine wpD_nil ?_
      go_wp2
      go_roundg (n - (k + 1))
      case measure => omega
      case rel => exact ⟨k + 1, by omega, by go_num, (by exact bel_)⟩
    · obtain rfl : k = n := by omega
      go_wp2
      go_ret
      exact ⟨rfl, hbw⟩
set_option maxHeartbeats 1000000 in
theorem eqSignalTile_same (A B : Option Addr) (n c d : Nat) (A2 B2 : Option Addr) (n2 c2 d2 : Nat) (A3 B3 : Option Addr) (n3 c3 d3 : Nat) (x : Sti) (w : World) (hA : RdSl 1 RInt w A n x.sides) (kA : RdSl 1 RInt w B n x.sides) (lA : n ≤ 1073741824) (hA2 : RdSl 1 RBool w A2 n2 x.on) (kA2 : RdSl 1 RBool w B2 n2 x.on) (lA2 : n2 ≤ 1073741824) (hA3 : RdSl 2 RFi w A3 n3 x.fires) (kA3 : RdSl 2 RFi w B3 n3 x.fires) (lA3 : n3 ≤ 1073741824) :
    Calls Try.prog 82 #[.agg #[.string x.name, .slice A n c, .slice A2 n2 c2, .slice A3 n3 c3], .agg #[.string x.name, .slice B n d, .slice B2 n2 d2, .slice B3 n3 d3]] w fun e w' => e = .returned (.bool true) ∧ Below w.heap.size w w' := by
  have hb0 : ∀ o1 o2, Below w.heap.size w ((w.alloc o1).alloc o2) := fun o1 o2 => bl_al (bl_al (bl_refl _) _) _
  
  go_enter Try.func82, Try.ntmps82
  go_wp2_with fail
  refine (eqInt64S_same _ _ _ _ _ x.sides _ (hA.below RInt.stable (hb0 _ _)) (kA.below RInt.stable (hb0 _ _)) lA).mono ?_
  rintro e w1 ⟨rfl, hb1⟩
  have hw1 := bl_tr (hb0 _ _) hb1
  obtain ⟨ch1, fh1, sh1, th1⟩ := bcell hb1; (have b10 := sh1 w.heap.size (by go_simp)); (have b11 := sh1 (w.heap.size + 1) (by go_simp))
  go_wp2_with fail
  refine (eqBoolS_same _ _ _ _ _ x.on _ (hA2.below RBool.stable hw1) (kA2.below RBool.stable hw1) lA2).mono ?_
  rintro e w2 ⟨rfl, hb2⟩
  have hw2 := bl_tr hw1 hb2
  obtain ⟨ch2, fh2, sh2, th2⟩ := bcell hb2; (have b20 := sh2 w.heap.size (by go_simp)); (have b21 := sh2 (w.heap.size + 1) (by go_simp))
  go_wp2_with fail
  refine (eqFireS_same _ _ _ _ _ x.fires _ (hA3.below RFi.stable hw2) (kA3.below RFi.stable hw2) lA3).mono ?_
  rintro e w3 ⟨rfl, hb3⟩
  have hw3 := bl_tr hw2 hb3
  obtain ⟨ch3, fh3, sh3, th3⟩ := bcell hb3; (have b30 := sh3 w.heap.size (by go_simp)); (have b31 := sh3 (w.heap.size + 1) (by go_simp))
  go_wp2_with fail
  go_ret
  exact ⟨rfl, hw3⟩
set_option maxHeartbeats 1000000 in
theorem eqSignalCell_same (A B : Option Addr) (n c d : Nat) (A2 B2 : Option Addr) (n2 c2 d2 : Nat) (A3 B3 : Option Addr) (n3 c3 d3 : Nat) (x : Sc) (w : World) (hA : RdSl 1 RBool w A n x.on) (kA : RdSl 1 RBool w B n x.on) (lA : n ≤ 1073741824) (hA2 : RdSl 1 RBool w A2 n2 x.bound) (kA2 : RdSl 1 RBool w B2 n2 x.bound) (lA2 : n2 ≤ 1073741824) (hA3 : RdSl 1 RBool w A3 n3 x.fired) (kA3 : RdSl 1 RBool w B3 n3 x.fired) (lA3 : n3 ≤ 1073741824) :
    Calls Try.prog 39 #[.agg #[.int .i64 x.x, .int .i64 x.y, .int .i64 x.t, .slice A n c, .slice A2 n2 c2, .slice A3 n3 c3], .agg #[.int .i64 x.x, .int .i64 x.y, .int .i64 x.t, .slice B n d, .slice B2 n2 d2, .slice B3 n3 d3]] w fun e w' => e = .returned (.bool true) ∧ Below w.heap.size w w' := by
  have hb0 : ∀ o1 o2, Below w.heap.size w ((w.alloc o1).alloc o2) := fun o1 o2 => bl_al (bl_al (bl_refl _) _) _
  
  go_enter Try.func39, Try.ntmps39
  go_wp2_with fail
  refine (eqPoint_same _ _ _).mono ?_
  rintro e w0 ⟨rfl, hb0_⟩
  have hw0 := bl_tr (hb0 _ _) hb0_
  obtain ⟨ch0, fh0, sh0, th0⟩ := bcell hb0_; (have a0 := sh0 w.heap.size (by go_simp)); (have a1 := sh0 (w.heap.size + 1) (by go_simp))
  go_wp2_with fail
  refine (eqBoolS_same _ _ _ _ _ x.on _ (hA.below RBool.stable hw0) (kA.below RBool.stable hw0) lA).mono ?_
  rintro e w1 ⟨rfl, hb1⟩
  have hw1 := bl_tr hw0 hb1
  obtain ⟨ch1, fh1, sh1, th1⟩ := bcell hb1; (have b10 := sh1 w.heap.size (by go_simp)); (have b11 := sh1 (w.heap.size + 1) (by go_simp))
  go_wp2_with fail
  refine (eqBoolS_same _ _ _ _ _ x.bound _ (hA2.below RBool.stable hw1) (kA2.below RBool.stable hw1) lA2).mono ?_
  rintro e w2 ⟨rfl, hb2⟩
  have hw2 := bl_tr hw1 hb2
  obtain ⟨ch2, fh2, sh2, th2⟩ := bcell hb2; (have b20 := sh2 w.heap.size (by go_simp)); (have b21 := sh2 (w.heap.size + 1) (by go_simp))
  go_wp2_with fail
  refine (eqBoolS_same _ _ _ _ _ x.fired _ (hA3.below RBool.stable hw2) (kA3.below RBool.stable hw2) lA3).mono ?_
  rintro e w3 ⟨rfl, hb3⟩
  have hw3 := bl_tr hw2 hb3
  obtain ⟨ch3, fh3, sh3, th3⟩ := bcell hb3; (have b30 := sh3 w.heap.size (by go_simp)); (have b31 := sh3 (w.heap.size + 1) (by go_simp))
  go_wp2_with fail
  go_ret
  exact ⟨rfl, hw3⟩
set_option maxHeartbeats 1000000 in
theorem eqSignalTileS_same (A B : Option Addr) (n c d : Nat) (xs : List Sti) (w : World) (h1 : RdSl 4 RSti w A n xs) (h2 : RdSl 4 RSti w B n xs) (hn : n ≤ 1073741824) (hx : ∀ e ∈ xs, e.sides.length ≤ 1073741824 ∧ e.on.length ≤ 1073741824 ∧ e.fires.length ≤ 1073741824) :
    Calls Try.prog 38 #[.slice A n c, .slice B n d] w fun e w' => e = .returned (.bool true) ∧ Below w.heap.size w w' := by
  
  go_enter Try.func38, Try.ntmps38
  go_wp2
  go_loopg [5] n (fun g i wr => ∃ k : Nat, k + g = n ∧ i = .int .i64 k ∧ Below w.heap.size w wr)
  case atStart => exact ⟨0, by omega, rfl, Below.refl _ _⟩
  case round =>
    obtain ⟨k, hk, rfl, hbw⟩ := hrel
    have r1 := h1.below RSti.stable hbw
    have r2 := h2.below RSti.stable hbw
    by_cases hlt : k < n
    · obtain ⟨b, o, rfl, hb, hc⟩ := r1.ptr (by omega)
      obtain ⟨b2, o2, rfl, hb2, hc2⟩ := r2.ptr (by omega)
      obtain ⟨e, he⟩ := h1.get hlt
      obtain ⟨g0, ⟨A1, n1, c1, p1, s1⟩, ⟨A2, n2, c2, p2, s2⟩, ⟨A3, n3, c3, p3, s3⟩⟩ := hc k e he
      obtain ⟨q0, ⟨B1, m1, d1, u1, t1⟩, ⟨B2, m2, d2, u2, t2⟩, ⟨B3, m3, d3, u3, t3⟩⟩ := hc2 k e he
      obtain rfl : n1 = m1 := s1.len.symm.trans t1.len
      obtain rfl : n2 = m2 := s2.len.symm.trans t2.len
      obtain rfl : n3 = m3 := s3.len.symm.trans t3.len
      obtain ⟨l1, l2, l3⟩ := hx e (List.mem_of_getElem? he)
      have hm1 : n1 ≤ 1073741824 := by rw [← s1.len]; exact l1
      have hm2 : n2 ≤ 1073741824 := by rw [← s2.len]; exact l2
      have hm3 : n3 ≤ 1073741824 := by rw [← s3.len]; exact l3
      have s1H := Lib.hid (s1.below RInt.stable (bl_dr (bl_refl _)))
      have t1H := Lib.hid (t1.below RInt.stable (bl_dr (bl_refl _)))
      have s2H := Lib.hid (s2.below RBool.stable (bl_dr (bl_refl _)))
      have t2H := Lib.hid (t2.below RBool.stable (bl_dr (bl_refl _)))
      have s3H := Lib.hid (s3.below RFi.stable (bl_dr (bl_refl _)))
      have t3H := Lib.hid (t3.below RFi.stable (bl_dr (bl_refl _)))
      clear s1 s2 s3 t1 t2 t3 l1 l2 l3
      clear hc hc2 he r1 r2
      go_wp2
      refine wp_region_ord [(0, .q), (1, .q), (2, .q), (3, .q), (4, .q), (5, .q), (6, .q), (7, .q), (8, .g), (9, .q)] (by kernel_rfl) (by kernel_rfl) ?_
      simp only [pick, List.filterMap_cons, List.filterMap_nil, List.getElem?_toArray, List.getElem?_cons_zero, List.getElem?_cons_succ, Option.map_some]
      repeat (first
        | ((with_reducible refine wpD_p (fun K hK => ?_)); go_simp; refine hK _ ?_; clear hK K)
        | ((with_reducible refine wpD_q (fun K hK => ?_)); go_simp; (first | refine hK _ ?_ | (go_bits; refine hK _ ?_) | (go_bits; go_simp; refine hK _ ?_)); clear hK K)
        | ((with_reducible refine wpD_g (fun K hK => ?_)); go_simp; refine hK _ _ ?_; clear hK K)
        | ((with_reducible refine wpD_g (fun K hK => ?_)); go_simp; refine ⟨Grew.of_alloc _, hK _ _ ?_⟩; clear hK K)
        | ((with_reducible refine wpD_g (fun K hK => ?_)); go_simp; go_at_call 82; refine (eqSignalTile_same _ _ _ _ _ _ _ _ _ _ _ _ _ _ _ e _ s1H.out t1H.out hm1 s2H.out t2H.out hm2 s3H.out t3H.out hm3).mono ?_; rintro e w1 ⟨rfl, hb1⟩; refine ⟨_, rfl, hb1, hK _ _ ?_⟩; clear hK K; obtain ⟨chb1, fhb1, shb1, thb1⟩ := bcell hb1; (try have bhb10 := shb1 (b) (by go_simp)); (try have bhb11 := shb1 (b2) (by go_simp))))
      with_reducible refine wpD_nil ?_
      go_wp2
      go_roundg (n - (k + 1))
      case measure => omega
      case rel => exact ⟨k + 1, by omega, by go_num, (by exact bel_)⟩
    · obtain rfl : k = n := by omega
      go_wp2
      go_ret
      exact ⟨rfl, hbw⟩
set_option maxHeartbeats 1000000 in
theorem eqSignalCellS_same (A B : Option Addr) (n c d : Nat) (xs : List Sc) (w : World) (h1 : RdSl 6 RSc w A n xs) (h2 : RdSl 6 RSc w B n xs) (hn : n ≤ 1073741824) (hx : ∀ e ∈ xs, e.on.length ≤ 1073741824 ∧ e.bound.length ≤ 1073741824 ∧ e.fired.length ≤ 1073741824) :
    Calls Try.prog 12 #[.slice A n c, .slice B n d] w fun e w' => e = .returned (.bool true) ∧ Below w.heap.size w w' := by
  
  go_enter Try.func12, Try.ntmps12
  go_wp2
  go_loopg [5] n (fun g i wr => ∃ k : Nat, k + g = n ∧ i = .int .i64 k ∧ Below w.heap.size w wr)
  case atStart => exact ⟨0, by omega, rfl, Below.refl _ _⟩
  case round =>
    obtain ⟨k, hk, rfl, hbw⟩ := hrel
    have r1 := h1.below RSc.stable hbw
    have r2 := h2.below RSc.stable hbw
    by_cases hlt : k < n
    · obtain ⟨b, o, rfl, hb, hc⟩ := r1.ptr (by omega)
      obtain ⟨b2, o2, rfl, hb2, hc2⟩ := r2.ptr (by omega)
      obtain ⟨e, he⟩ := h1.get hlt
      obtain ⟨g0, g1, g2, ⟨A1, n1, c1, p1, s1⟩, ⟨A2, n2, c2, p2, s2⟩, ⟨A3, n3, c3, p3, s3⟩⟩ := hc k e he
      obtain ⟨q0, q1, q2, ⟨B1, m1, d1, u1, t1⟩, ⟨B2, m2, d2, u2, t2⟩, ⟨B3, m3, d3, u3, t3⟩⟩ := hc2 k e he
      obtain rfl : n1 = m1 := s1.len.symm.trans t1.len
      obtain rfl : n2 = m2 := s2.len.symm.trans t2.len
      obtain rfl : n3 = m3 := s3.len.symm.trans t3.len
      obtain ⟨l1, l2, l3⟩ := hx e (List.mem_of_getElem? he)
      have hm1 : n1 ≤ 1073741824 := by rw [← s1.len]; exact l1
      have hm2 : n2 ≤ 1073741824 := by rw [← s2.len]; exact l2
      have hm3 : n3 ≤ 1073741824 := by rw [← s3.len]; exact l3
      have s1H := Lib.hid (s1.below RBool.stable (bl_dr (bl_refl _)))
      have t1H := Lib.hid (t1.below RBool.stable (bl_dr (bl_refl _)))
      have s2H := Lib.hid (s2.below RBool.stable (bl_dr (bl_refl _)))
      have t2H := Lib.hid (t2.below RBool.stable (bl_dr (bl_refl _)))
      have s3H := Lib.hid (s3.below RBool.stable (bl_dr (bl_refl _)))
      have t3H := Lib.hid (t3.below RBool.stable (bl_dr (bl_refl _)))
      clear s1 s2 s3 t1 t2 t3 l1 l2 l3
      clear hc hc2 he r1 r2
      go_wp2
      refine wp_region_ord [(0, .q), (1, .q), (2, .q), (3, .q), (4, .q), (5, .q), (6, .q), (7, .q), (8, .g), (9, .q)] (by kernel_rfl) (by kernel_rfl) ?_
      simp only [pick, List.filterMap_cons, List.filterMap_nil, List.getElem?_toArray, List.getElem?_cons_zero, List.getElem?_cons_succ, Option.map_some]
      repeat (first
        | ((with_reducible refine wpD_p (fun K hK => ?_)); go_simp; refine hK _ ?_; clear hK K)
        | ((with_reducible refine wpD_q (fun K hK => ?_)); go_simp; (first | refine hK _ ?_ | (go_bits; refine hK _ ?_) | (go_bits; go_simp; refine hK _ ?_)); clear hK K)
        | ((with_reducible refine wpD_g (fun K hK => ?_)); go_simp; refine hK _ _ ?_; clear hK K)
        | ((with_reducible refine wpD_g (fun K hK => ?_)); go_simp; refine ⟨Grew.of_alloc _, hK _ _ ?_⟩; clear hK K)
        | ((with_reducible refine wpD_g (fun K hK => ?_)); go_simp; go_at_call 39; refine (eqSignalCell_same _ _ _ _ _ _ _ _ _ _ _ _ _ _ _ e _ s1H.out t1H.out hm1 s2H.out t2H.out hm2 s3H.out t3H.out hm3).mono ?_; rintro e w1 ⟨rfl, hb1⟩; refine ⟨_, rfl, hb1, hK _ _ ?_⟩; clear hK K; obtain ⟨chb1, fhb1, shb1, thb1⟩ := bcell hb1; (try have bhb10 := shb1 (b) (by go_simp)); (try have bhb11 := shb1 (b2) (by go_simp))))
      with_reducible refine wpD_nil ?_
      go_wp2
      go_roundg (n - (k + 1))
      case measure => omega
      case rel => exact ⟨k + 1, by omega, by go_num, (by exact bel_)⟩
    · obtain rfl : k = n := by omega
      go_wp2
      go_ret
      exact ⟨rfl, hbw⟩
theorem eqSignalSet_same (A B A2 B2 : Option Addr) (n c d m c2 d2 : Nat) (gs : List Gl) (ts : List Sti) (w : World) (h1 : RdSl 2 RGl w A n gs) (h2 : RdSl 2 RGl w B n gs) (k1 : RdSl 4 RSti w A2 m ts) (k2 : RdSl 4 RSti w B2 m ts)
    (hn : n ≤ 1073741824) (hm : m ≤ 1073741824) (hx : ∀ e ∈ ts, e.sides.length ≤ 1073741824 ∧ e.on.length ≤ 1073741824 ∧ e.fires.length ≤ 1073741824) :
    Calls Try.prog 11 #[.agg #[.slice A n c, .slice A2 m c2], .agg #[.slice B n d, .slice B2 m d2]] w fun e w' => e = .returned (.bool true) ∧ Below w.heap.size w w' := by
  have hb0 : ∀ o1 o2, Below w.heap.size w ((w.alloc o1).alloc o2) := fun o1 o2 => bl_al (bl_al (bl_refl _) _) _
  
  go_enter Try.func11, Try.ntmps11
  go_wp2_with (first | (go_at_call 37; refine (eqGlueS_same _ _ _ _ _ gs _ (h1.below RGl.stable (hb0 _ _)) (h2.below RGl.stable (hb0 _ _)) hn).mono ?_; rintro e w1 ⟨rfl, hb1⟩; obtain ⟨chb1, fhb1, shb1, thb1⟩ := bcell hb1; (try have bhb10 := shb1 (w.heap.size) (by go_simp)); (try have bhb11 := shb1 (w.heap.size + 1) (by go_simp))) | (go_at_call 38; refine (eqSignalTileS_same _ _ _ _ _ ts _ (k1.below RSti.stable (bl_tr (hb0 _ _) hb1)) (k2.below RSti.stable (bl_tr (hb0 _ _) hb1)) hm hx).mono ?_; rintro e w2 ⟨rfl, hb2⟩; obtain ⟨chb2, fhb2, shb2, thb2⟩ := bcell hb2; (try have bhb20 := shb2 (w.heap.size) (by go_simp)); (try have bhb21 := shb2 (w.heap.size + 1) (by go_simp))))
  go_ret
  refine ⟨rfl, ?_⟩
  exact bel_
end Go.Proofs.Ytbipnnjkddffbaa
