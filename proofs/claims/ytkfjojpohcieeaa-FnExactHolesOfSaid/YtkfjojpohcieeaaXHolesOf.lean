/- Walk: the law FnExactHolesOf. -/
import Derived.Test.YtkfjojpohcieeaaKR
import Derived.Test.YtkfjojpohcieeaaKH
namespace Go.Proofs.Ytkfjojpohcieeaa
open Go.RowKit
set_option linter.unusedSimpArgs false
set_option linter.unusedVariables false
attribute [local go_sem] BelowBy.cell BelowBy.cell_drew stillUpon givesUpon BelowBy.cell_drew2 BelowBy.cell_drew3

set_option maxRecDepth 100000 in
set_option maxHeartbeats 4000000 in
theorem FnExactHolesOf_any (F : Option Addr) (nf cf : Nat) (ps : List Pt) (w : World) (hF : RdSl 2 RPt w F nf ps) (hlnf : nf ≤ 9223372036854775807) :
    Calls Try.prog 3 #[.slice F nf cf] w fun e w' => e = .returned (.bool true) ∧ Below w.heap.size w w' := by
  have hSS := Lib.hid (holR_smallS ps)
  go_enter Try.func3, Try.ntmps3
  have kw := bl_refl w
  go_wp2_with fail
  refine (szPointS_any _ _ _ _ _ (by omega) (by omega) hlnf).mono ?_
  rintro e w1 ⟨r1, rfl, (rfl | ⟨hr10, hr11, hznf⟩), hb1⟩
  · go_wp2
    go_ret
    exact ⟨rfl, bl_tr bk_ hb1⟩
  have s1 : w.heap.size ≤ w1.heap.size := by have := hb1.size; (try simp at this); omega
  have s1H := Lib.hid s1
  have kw_1 : Below w.heap.size w w1 := bl_tr bk_ hb1
  clear kw s1
  clear hb1
  go_wp2_with fail
  refine (toPointS_any _ _ _ ps _ (hF.below RPt.stable bk_) (by omega)).mono ?_
  rintro e w2 ⟨F2, rfl, o2, hb2⟩
  have s2 : w1.heap.size ≤ w2.heap.size := by have := hb2.size; (try simp at this); omega
  have s2H := Lib.hid s2
  have kw_2 : Below w.heap.size w w2 := bl_tr bk_ hb2
  clear kw_1 s2
  clear hb2
  have kc2 : Below w2.heap.size w2 w2 := bl_refl _
  have o2H := Lib.hid o2
  clear o2
  go_wp2_with fail
  refine (sHolesOf_any _ _ _ ps _ (o2H.out.rd.below RPt.stable bk_) (by omega)).mono ?_
  rintro e w3 ⟨V3, c3, u3, rfl, v3, hb3⟩
  have s3 : w2.heap.size ≤ w3.heap.size := by have := hb3.size; (try simp at this); omega
  have s3H := Lib.hid s3
  have kw_3 : Below w.heap.size w w3 := bl_tr bk_ hb3
  have kc2_3 : Below w2.heap.size w2 w3 := bl_tr bk_ hb3
  clear kc2 kw_2 s3
  clear hb3
  have kr3 : Below w3.heap.size w3 w3 := bl_refl _
  have v3H := Lib.hid v3
  clear v3
  go_wp2_with fail
  refine (toPointS_any _ _ _ ps _ (hF.below RPt.stable bk_) (by omega)).mono ?_
  rintro e w4 ⟨F4, rfl, o4, hb4⟩
  have s4 : w3.heap.size ≤ w4.heap.size := by have := hb4.size; (try simp at this); omega
  have s4H := Lib.hid s4
  have kw_4 : Below w.heap.size w w4 := bl_tr bk_ hb4
  have kc2_4 : Below w2.heap.size w2 w4 := bl_tr bk_ hb4
  have kr3_4 : Below w3.heap.size w3 w4 := bl_tr bk_ hb4
  clear kr3 kc2_3 kw_3 s4
  clear hb4
  have kc4 : Below w4.heap.size w4 w4 := bl_refl _
  have o4H := Lib.hid o4
  clear o4
  go_wp2_with fail
  refine (HolesOf_any _ _ _ ps _ (o4H.out.rd.below RPt.stable bk_) (by omega)).mono ?_
  rintro e w5 ⟨V5, c5, u5, rfl, v5, hb5⟩
  have s5 : w4.heap.size ≤ w5.heap.size := by have := hb5.size; (try simp at this); omega
  have s5H := Lib.hid s5
  have kw_5 : Below w.heap.size w w5 := bl_tr bk_ hb5
  have kc2_5 : Below w2.heap.size w2 w5 := bl_tr bk_ hb5
  have kr3_5 : Below w3.heap.size w3 w5 := bl_tr bk_ hb5
  have kc4_5 : Below w4.heap.size w4 w5 := bl_tr bk_ hb5
  clear kc4 kr3_4 kc2_4 kw_4 s5
  clear hb5
  have kr5 : Below w5.heap.size w5 w5 := bl_refl _
  have v5H := Lib.hid v5
  clear v5
  go_wp2_with fail
  refine (eqPointSS_same _ _ _ _ _ (holR ps).1 _ ((rdPointSS v5H.out).below (RRow.stable RPt.stable) bk_) ((rdPointSS v3H.out).below (RRow.stable RPt.stable) bk_) hSS.out.n hSS.out.e).mono ?_
  rintro e w6 ⟨rfl, hb6⟩
  have s6 : w5.heap.size ≤ w6.heap.size := by have := hb6.size; (try simp at this); omega
  have s6H := Lib.hid s6
  have kw_6 : Below w.heap.size w w6 := bl_tr bk_ hb6
  have kc2_6 : Below w2.heap.size w2 w6 := bl_tr bk_ hb6
  have kr3_6 : Below w3.heap.size w3 w6 := bl_tr bk_ hb6
  have kc4_6 : Below w4.heap.size w4 w6 := bl_tr bk_ hb6
  have kr5_6 : Below w5.heap.size w5 w6 := bl_tr bk_ hb6
  clear kr5 kc4_5 kr3_5 kc2_5 kw_5 s6
  clear hb6
  go_wp2_with fail
  refine (toPointS_any _ _ _ ps _ (hF.below RPt.stable bk_) (by omega)).mono ?_
  rintro e w7 ⟨F7, rfl, o7, hb7⟩
  have s7 : w6.heap.size ≤ w7.heap.size := by have := hb7.size; (try simp at this); omega
  have s7H := Lib.hid s7
  have kw_7 : Below w.heap.size w w7 := bl_tr bk_ hb7
  have kc2_7 : Below w2.heap.size w2 w7 := bl_tr bk_ hb7
  have kr3_7 : Below w3.heap.size w3 w7 := bl_tr bk_ hb7
  have kc4_7 : Below w4.heap.size w4 w7 := bl_tr bk_ hb7
  have kr5_7 : Below w5.heap.size w5 w7 := bl_tr bk_ hb7
  clear kr5_6 kc4_6 kr3_6 kc2_6 kw_6 s7
  clear hb7
  have kc7 : Below w7.heap.size w7 w7 := bl_refl _
  have o7H := Lib.hid o7
  clear o7
  go_wp2_with fail
  refine (eqPointS_same _ _ _ _ _ ps _ (o4H.out.rd.below RPt.stable bk_) (o7H.out.rd.below RPt.stable bk_) (by omega)).mono ?_
  rintro e w8 ⟨rfl, hb8⟩
  have s8 : w7.heap.size ≤ w8.heap.size := by have := hb8.size; (try simp at this); omega
  have s8H := Lib.hid s8
  have kw_8 : Below w.heap.size w w8 := bl_tr bk_ hb8
  have kc2_8 : Below w2.heap.size w2 w8 := bl_tr bk_ hb8
  have kr3_8 : Below w3.heap.size w3 w8 := bl_tr bk_ hb8
  have kc4_8 : Below w4.heap.size w4 w8 := bl_tr bk_ hb8
  have kr5_8 : Below w5.heap.size w5 w8 := bl_tr bk_ hb8
  have kc7_8 : Below w7.heap.size w7 w8 := bl_tr bk_ hb8
  clear kc7 kr5_7 kc4_7 kr3_7 kc2_7 kw_7 s8
  clear hb8
  go_wp2_with fail
  have MF4 := Lib.hid (((o4H.out.mk_).lo_ (lo' := (w3.heap.size)) (by have s1H_ := s1H.out; have s2H_ := s2H.out; have s3H_ := s3H.out; have s4H_ := s4H.out; have s5H_ := s5H.out; have s6H_ := s6H.out; have s7H_ := s7H.out; have s8H_ := s8H.out; (try simp only [World.size_alloc, World.size_drew]); omega)).below kc4_8 (Nat.le_refl _))
  have OG5a := Lib.hid (Own2.rebase (base' := (w4.heap.size)) (Own2.below v5H.out kr5_8) (by have s1H_ := s1H.out; have s2H_ := s2H.out; have s3H_ := s3H.out; have s4H_ := s4H.out; have s5H_ := s5H.out; have s6H_ := s6H.out; have s7H_ := s7H.out; have s8H_ := s8H.out; (try simp only [World.size_alloc, World.size_drew]); omega))
  refine (markPointS_any2 _ nf _ 1 (w3.heap.size) w4.heap.size _ (MkRow.below MF4.out bk_ (by have s1H_ := s1H.out; have s2H_ := s2H.out; have s3H_ := s3H.out; have s4H_ := s4H.out; have s5H_ := s5H.out; have s6H_ := s6H.out; have s7H_ := s7H.out; have s8H_ := s8H.out; (try simp only [World.size_alloc, World.size_drew]); omega)) (by have s1H_ := s1H.out; have s2H_ := s2H.out; have s3H_ := s3H.out; have s4H_ := s4H.out; have s5H_ := s5H.out; have s6H_ := s6H.out; have s7H_ := s7H.out; have s8H_ := s8H.out; (try simp only [World.size_alloc, World.size_drew]); omega) (by have s1H_ := s1H.out; have s2H_ := s2H.out; have s3H_ := s3H.out; have s4H_ := s4H.out; have s5H_ := s5H.out; have s6H_ := s6H.out; have s7H_ := s7H.out; have s8H_ := s8H.out; (try simp only [World.size_alloc, World.size_drew]); omega) (by omega)).mono ?_
  rintro e w9 ⟨r9, rfl, hr91, hr92, hm9⟩
  clear MF4
  have s9 : w8.heap.size ≤ w9.heap.size := by have := hm9.size; (try simp at this); omega
  have s9H := Lib.hid s9
  have kw_9 : Below w.heap.size w w9 := Below.trans bk_ (hm9.below.mono (by have s1H_ := s1H.out; have s2H_ := s2H.out; have s3H_ := s3H.out; have s4H_ := s4H.out; have s5H_ := s5H.out; have s6H_ := s6H.out; have s7H_ := s7H.out; have s8H_ := s8H.out; have s9H_ := s9H.out; (try simp only [World.size_alloc, World.size_drew]); omega))
  have kc2_9 : Below w2.heap.size w2 w9 := Below.trans bk_ (hm9.below.mono (by have s1H_ := s1H.out; have s2H_ := s2H.out; have s3H_ := s3H.out; have s4H_ := s4H.out; have s5H_ := s5H.out; have s6H_ := s6H.out; have s7H_ := s7H.out; have s8H_ := s8H.out; have s9H_ := s9H.out; (try simp only [World.size_alloc, World.size_drew]); omega))
  have kr3_9 : Below w3.heap.size w3 w9 := Below.trans bk_ (hm9.below.mono (by have s1H_ := s1H.out; have s2H_ := s2H.out; have s3H_ := s3H.out; have s4H_ := s4H.out; have s5H_ := s5H.out; have s6H_ := s6H.out; have s7H_ := s7H.out; have s8H_ := s8H.out; have s9H_ := s9H.out; (try simp only [World.size_alloc, World.size_drew]); omega))
  have OG5a_9 := Lib.hid (Own2.mkd (Own2.below OG5a.out bk_) hm9 (by have s1H_ := s1H.out; have s2H_ := s2H.out; have s3H_ := s3H.out; have s4H_ := s4H.out; have s5H_ := s5H.out; have s6H_ := s6H.out; have s7H_ := s7H.out; have s8H_ := s8H.out; have s9H_ := s9H.out; (try simp only [World.size_alloc, World.size_drew]); omega))
  clear OG5a kc7_8 kr5_8 kc4_8 kr3_8 kc2_8 kw_8 s9
  clear hm9
  go_wp2_with fail
  refine (eqPointSS_same _ _ _ _ _ (holR ps).1 _ ((rdPointSS OG5a_9.out).below (RRow.stable RPt.stable) bk_) ((rdPointSS v3H.out).below (RRow.stable RPt.stable) bk_) hSS.out.n hSS.out.e).mono ?_
  rintro e w10 ⟨rfl, hb10⟩
  have s10 : w9.heap.size ≤ w10.heap.size := by have := hb10.size; (try simp at this); omega
  have s10H := Lib.hid s10
  have kw_10 : Below w.heap.size w w10 := bl_tr bk_ hb10
  have kc2_10 : Below w2.heap.size w2 w10 := bl_tr bk_ hb10
  have kr3_10 : Below w3.heap.size w3 w10 := bl_tr bk_ hb10
  have OG5a_10 := Lib.hid (Own2.below (Own2.below OG5a_9.out bk_) hb10)
  clear OG5a_9 kr3_9 kc2_9 kw_9 s10
  clear hb10
  go_wp2_with fail
  refine (markPointSS_g _ _ 1 (w4.heap.size) _ _ (holR ps).1 _ (nrowsPointSS (Own2.below OG5a_10.out bk_)) (Nat.le_refl _) (by have s1H_ := s1H.out; have s2H_ := s2H.out; have s3H_ := s3H.out; have s4H_ := s4H.out; have s5H_ := s5H.out; have s6H_ := s6H.out; have s7H_ := s7H.out; have s8H_ := s8H.out; have s9H_ := s9H.out; have s10H_ := s10H.out; (try simp only [World.size_alloc, World.size_drew]); omega) (by have := hSS.out.s; omega) hSS.out.n).mono ?_
  rintro e w11 ⟨rfl, hm11, mc11⟩
  clear OG5a_10
  have s11 : w10.heap.size ≤ w11.heap.size := by have := hm11.size; (try simp at this); omega
  have s11H := Lib.hid s11
  have kw_11 : Below w.heap.size w w11 := Below.trans bk_ (hm11.below.mono (by have s1H_ := s1H.out; have s2H_ := s2H.out; have s3H_ := s3H.out; have s4H_ := s4H.out; have s5H_ := s5H.out; have s6H_ := s6H.out; have s7H_ := s7H.out; have s8H_ := s8H.out; have s9H_ := s9H.out; have s10H_ := s10H.out; have s11H_ := s11H.out; (try simp only [World.size_alloc, World.size_drew]); omega))
  have kc2_11 : Below w2.heap.size w2 w11 := Below.trans bk_ (hm11.below.mono (by have s1H_ := s1H.out; have s2H_ := s2H.out; have s3H_ := s3H.out; have s4H_ := s4H.out; have s5H_ := s5H.out; have s6H_ := s6H.out; have s7H_ := s7H.out; have s8H_ := s8H.out; have s9H_ := s9H.out; have s10H_ := s10H.out; have s11H_ := s11H.out; (try simp only [World.size_alloc, World.size_drew]); omega))
  have kr3_11 : Below w3.heap.size w3 w11 := Below.trans bk_ (hm11.below.mono (by have s1H_ := s1H.out; have s2H_ := s2H.out; have s3H_ := s3H.out; have s4H_ := s4H.out; have s5H_ := s5H.out; have s6H_ := s6H.out; have s7H_ := s7H.out; have s8H_ := s8H.out; have s9H_ := s9H.out; have s10H_ := s10H.out; have s11H_ := s11H.out; (try simp only [World.size_alloc, World.size_drew]); omega))
  clear kr3_10 kc2_10 kw_10 s11
  have Mc11 := Lib.hid mc11
  clear mc11 hm11
  go_wp2_with fail
  refine (heldPointSS_g _ _ 1 _ _ _ (holR ps).1 _ (Marked2.below Mc11.out bk_ (by have s1H_ := s1H.out; have s2H_ := s2H.out; have s3H_ := s3H.out; have s4H_ := s4H.out; have s5H_ := s5H.out; have s6H_ := s6H.out; have s7H_ := s7H.out; have s8H_ := s8H.out; have s9H_ := s9H.out; have s10H_ := s10H.out; have s11H_ := s11H.out; (try simp only [World.size_alloc, World.size_drew]); omega)) (by have := hSS.out.s; omega) hSS.out.n).mono ?_
  rintro e _ ⟨rfl, rfl⟩
  go_wp2_with fail
  refine (toPointS_any _ _ _ ps _ (hF.below RPt.stable bk_) (by omega)).mono ?_
  rintro e w13 ⟨F13, rfl, o13, hb13⟩
  have s12 : w11.heap.size ≤ w13.heap.size := by have := hb13.size; (try simp at this); omega
  have s12H := Lib.hid s12
  have kw_12 : Below w.heap.size w w13 := bl_tr bk_ hb13
  have kc2_12 : Below w2.heap.size w2 w13 := bl_tr bk_ hb13
  have kr3_12 : Below w3.heap.size w3 w13 := bl_tr bk_ hb13
  have Mc11_12 := Lib.hid (Marked2.below (Marked2.below Mc11.out bk_ (by have s1H_ := s1H.out; have s2H_ := s2H.out; have s3H_ := s3H.out; have s4H_ := s4H.out; have s5H_ := s5H.out; have s6H_ := s6H.out; have s7H_ := s7H.out; have s8H_ := s8H.out; have s9H_ := s9H.out; have s10H_ := s10H.out; have s11H_ := s11H.out; have s12H_ := s12H.out; (try simp only [World.size_alloc, World.size_drew]); omega)) hb13 (by have s1H_ := s1H.out; have s2H_ := s2H.out; have s3H_ := s3H.out; have s4H_ := s4H.out; have s5H_ := s5H.out; have s6H_ := s6H.out; have s7H_ := s7H.out; have s8H_ := s8H.out; have s9H_ := s9H.out; have s10H_ := s10H.out; have s11H_ := s11H.out; have s12H_ := s12H.out; (try simp only [World.size_alloc, World.size_drew]); omega))
  clear Mc11 kr3_11 kc2_11 kw_11 s12
  clear hb13
  have kc13 : Below w13.heap.size w13 w13 := bl_refl _
  have o13H := Lib.hid o13
  clear o13
  go_wp2_with fail
  refine (HolesOf_any _ _ _ ps _ (o13H.out.rd.below RPt.stable bk_) (by omega)).mono ?_
  rintro e w14 ⟨V14, c14, u14, rfl, v14, hb14⟩
  have s13 : w13.heap.size ≤ w14.heap.size := by have := hb14.size; (try simp at this); omega
  have s13H := Lib.hid s13
  have kw_13 : Below w.heap.size w w14 := bl_tr bk_ hb14
  have kc2_13 : Below w2.heap.size w2 w14 := bl_tr bk_ hb14
  have kr3_13 : Below w3.heap.size w3 w14 := bl_tr bk_ hb14
  have kc13_13 : Below w13.heap.size w13 w14 := bl_tr bk_ hb14
  have Mc11_13 := Lib.hid (Marked2.below (Marked2.below Mc11_12.out bk_ (by have s1H_ := s1H.out; have s2H_ := s2H.out; have s3H_ := s3H.out; have s4H_ := s4H.out; have s5H_ := s5H.out; have s6H_ := s6H.out; have s7H_ := s7H.out; have s8H_ := s8H.out; have s9H_ := s9H.out; have s10H_ := s10H.out; have s11H_ := s11H.out; have s12H_ := s12H.out; have s13H_ := s13H.out; (try simp only [World.size_alloc, World.size_drew]); omega)) hb14 (by have s1H_ := s1H.out; have s2H_ := s2H.out; have s3H_ := s3H.out; have s4H_ := s4H.out; have s5H_ := s5H.out; have s6H_ := s6H.out; have s7H_ := s7H.out; have s8H_ := s8H.out; have s9H_ := s9H.out; have s10H_ := s10H.out; have s11H_ := s11H.out; have s12H_ := s12H.out; have s13H_ := s13H.out; (try simp only [World.size_alloc, World.size_drew]); omega))
  clear Mc11_12 kc13 kr3_12 kc2_12 kw_12 s13
  clear hb14
  have kr14 : Below w14.heap.size w14 w14 := bl_refl _
  have v14H := Lib.hid v14
  clear v14
  go_wp2_with fail
  refine (eqPointSS_same _ _ _ _ _ (holR ps).1 _ ((rdPointSS v14H.out).below (RRow.stable RPt.stable) bk_) ((rdPointSS v3H.out).below (RRow.stable RPt.stable) bk_) hSS.out.n hSS.out.e).mono ?_
  rintro e w15 ⟨rfl, hb15⟩
  have s14 : w14.heap.size ≤ w15.heap.size := by have := hb15.size; (try simp at this); omega
  have s14H := Lib.hid s14
  have kw_14 : Below w.heap.size w w15 := bl_tr bk_ hb15
  have kc2_14 : Below w2.heap.size w2 w15 := bl_tr bk_ hb15
  have kr3_14 : Below w3.heap.size w3 w15 := bl_tr bk_ hb15
  have kc13_14 : Below w13.heap.size w13 w15 := bl_tr bk_ hb15
  have kr14_14 : Below w14.heap.size w14 w15 := bl_tr bk_ hb15
  have Mc11_14 := Lib.hid (Marked2.below (Marked2.below Mc11_13.out bk_ (by have s1H_ := s1H.out; have s2H_ := s2H.out; have s3H_ := s3H.out; have s4H_ := s4H.out; have s5H_ := s5H.out; have s6H_ := s6H.out; have s7H_ := s7H.out; have s8H_ := s8H.out; have s9H_ := s9H.out; have s10H_ := s10H.out; have s11H_ := s11H.out; have s12H_ := s12H.out; have s13H_ := s13H.out; have s14H_ := s14H.out; (try simp only [World.size_alloc, World.size_drew]); omega)) hb15 (by have s1H_ := s1H.out; have s2H_ := s2H.out; have s3H_ := s3H.out; have s4H_ := s4H.out; have s5H_ := s5H.out; have s6H_ := s6H.out; have s7H_ := s7H.out; have s8H_ := s8H.out; have s9H_ := s9H.out; have s10H_ := s10H.out; have s11H_ := s11H.out; have s12H_ := s12H.out; have s13H_ := s13H.out; have s14H_ := s14H.out; (try simp only [World.size_alloc, World.size_drew]); omega))
  clear Mc11_13 kr14 kc13_13 kr3_13 kc2_13 kw_13 s14
  clear hb15
  go_wp2_with fail
  refine (heldPointSS_g _ _ 1 _ _ _ (holR ps).1 _ (Marked2.below Mc11_14.out bk_ (by have s1H_ := s1H.out; have s2H_ := s2H.out; have s3H_ := s3H.out; have s4H_ := s4H.out; have s5H_ := s5H.out; have s6H_ := s6H.out; have s7H_ := s7H.out; have s8H_ := s8H.out; have s9H_ := s9H.out; have s10H_ := s10H.out; have s11H_ := s11H.out; have s12H_ := s12H.out; have s13H_ := s13H.out; have s14H_ := s14H.out; (try simp only [World.size_alloc, World.size_drew]); omega)) (by have := hSS.out.s; omega) hSS.out.n).mono ?_
  rintro e _ ⟨rfl, rfl⟩
  go_wp2_with fail
  go_ret
  exact ⟨rfl, bk_⟩
end Go.Proofs.Ytkfjojpohcieeaa
