/- Walk: the law FnExactHeightOf. -/
import Derived.Test.YtpnilnpgiampgaaKT
import Derived.Test.YtpnilnpgiampgaaKH
namespace Go.Proofs.Ytpnilnpgiampgaa
open Go.RowKit
set_option linter.unusedSimpArgs false
set_option linter.unusedVariables false
attribute [local go_sem] BelowBy.cell BelowBy.cell_drew stillUpon givesUpon BelowBy.cell_drew2 BelowBy.cell_drew3

set_option maxRecDepth 100000 in
set_option maxHeartbeats 4000000 in
theorem FnExactHeightOf_any (F : Option Addr) (nf cf : Nat) (ps : List Pt) (root : Int) (w : World) (hF : RdSl 2 RPt w F nf ps) (hlnf : nf ≤ 9223372036854775807)  :
    Calls Try.prog 4 #[.slice F nf cf, .int .i64 root] w fun e w' => e = .returned (.bool true) ∧ Below w.heap.size w w' := by
  go_enter Try.func4, Try.ntmps4
  have kw := bl_refl w
  go_wp2_with fail
  refine (szPointS_any _ _ _ _ _ (by omega) (by omega) hlnf).mono ?_
  rintro e w1 ⟨r1, rfl, (rfl | ⟨hr10, hr11, hznf⟩), hb1⟩
  · go_wp2
    go_ret
    exact ⟨rfl, bl_tr bk_ hb1⟩
  have s1 : w.heap.size ≤ w1.heap.size := by have := hb1.size; (try simp at this); omega
  have s1H := Lib.hid s1
  have kw_1 : Below w.heap.size w w1 := bl_tr bk_ hb1
  clear kw s1
  clear hb1
  go_wp2_with fail
  refine (toPointS_any _ _ _ ps _ (hF.below RPt.stable bk_) (by omega)).mono ?_
  rintro e w2 ⟨F2, rfl, o2, hb2⟩
  have s2 : w1.heap.size ≤ w2.heap.size := by have := hb2.size; (try simp at this); omega
  have s2H := Lib.hid s2
  have kw_2 : Below w.heap.size w w2 := bl_tr bk_ hb2
  clear kw_1 s2
  clear hb2
  have kc2 : Below w2.heap.size w2 w2 := bl_refl _
  have o2H := Lib.hid o2
  clear o2
  go_wp2_with fail
  refine (sHeightOf_any _ _ _ ps root _ (o2H.out.rd.below RPt.stable bk_) (by omega)).mono ?_
  rintro e w3 ⟨rfl, hb3⟩
  have s3 : w2.heap.size ≤ w3.heap.size := by have := hb3.size; (try simp at this); omega
  have s3H := Lib.hid s3
  have kw_3 : Below w.heap.size w w3 := bl_tr bk_ hb3
  have kc2_3 : Below w2.heap.size w2 w3 := bl_tr bk_ hb3
  clear kc2 kw_2 s3
  clear hb3
  have kr3 : Below w3.heap.size w3 w3 := bl_refl _
  go_wp2_with fail
  refine (toPointS_any _ _ _ ps _ (hF.below RPt.stable bk_) (by omega)).mono ?_
  rintro e w4 ⟨F4, rfl, o4, hb4⟩
  have s4 : w3.heap.size ≤ w4.heap.size := by have := hb4.size; (try simp at this); omega
  have s4H := Lib.hid s4
  have kw_4 : Below w.heap.size w w4 := bl_tr bk_ hb4
  have kc2_4 : Below w2.heap.size w2 w4 := bl_tr bk_ hb4
  have kr3_4 : Below w3.heap.size w3 w4 := bl_tr bk_ hb4
  clear kr3 kc2_3 kw_3 s4
  clear hb4
  have kc4 : Below w4.heap.size w4 w4 := bl_refl _
  have o4H := Lib.hid o4
  clear o4
  go_wp2_with fail
  refine (HeightOf_any _ _ _ ps root _ (o4H.out.rd.below RPt.stable bk_) (by omega)).mono ?_
  rintro e w5 ⟨rfl, hb5⟩
  have s5 : w4.heap.size ≤ w5.heap.size := by have := hb5.size; (try simp at this); omega
  have s5H := Lib.hid s5
  have kw_5 : Below w.heap.size w w5 := bl_tr bk_ hb5
  have kc2_5 : Below w2.heap.size w2 w5 := bl_tr bk_ hb5
  have kr3_5 : Below w3.heap.size w3 w5 := bl_tr bk_ hb5
  have kc4_5 : Below w4.heap.size w4 w5 := bl_tr bk_ hb5
  clear kc4 kr3_4 kc2_4 kw_4 s5
  clear hb5
  have kr5 : Below w5.heap.size w5 w5 := bl_refl _
  go_wp2_with fail
  refine (toPointS_any _ _ _ ps _ (hF.below RPt.stable bk_) (by omega)).mono ?_
  rintro e w6 ⟨F6, rfl, o6, hb6⟩
  have s6 : w5.heap.size ≤ w6.heap.size := by have := hb6.size; (try simp at this); omega
  have s6H := Lib.hid s6
  have kw_6 : Below w.heap.size w w6 := bl_tr bk_ hb6
  have kc2_6 : Below w2.heap.size w2 w6 := bl_tr bk_ hb6
  have kr3_6 : Below w3.heap.size w3 w6 := bl_tr bk_ hb6
  have kc4_6 : Below w4.heap.size w4 w6 := bl_tr bk_ hb6
  have kr5_6 : Below w5.heap.size w5 w6 := bl_tr bk_ hb6
  clear kr5 kc4_5 kr3_5 kc2_5 kw_5 s6
  clear hb6
  have kc6 : Below w6.heap.size w6 w6 := bl_refl _
  have o6H := Lib.hid o6
  clear o6
  go_wp2_with fail
  refine (eqPointS_same _ _ _ _ _ ps _ (o4H.out.rd.below RPt.stable bk_) (o6H.out.rd.below RPt.stable bk_) (by omega)).mono ?_
  rintro e w7 ⟨rfl, hb7⟩
  have s7 : w6.heap.size ≤ w7.heap.size := by have := hb7.size; (try simp at this); omega
  have s7H := Lib.hid s7
  have kw_7 : Below w.heap.size w w7 := bl_tr bk_ hb7
  have kc2_7 : Below w2.heap.size w2 w7 := bl_tr bk_ hb7
  have kr3_7 : Below w3.heap.size w3 w7 := bl_tr bk_ hb7
  have kc4_7 : Below w4.heap.size w4 w7 := bl_tr bk_ hb7
  have kr5_7 : Below w5.heap.size w5 w7 := bl_tr bk_ hb7
  have kc6_7 : Below w6.heap.size w6 w7 := bl_tr bk_ hb7
  clear kc6 kr5_6 kc4_6 kr3_6 kc2_6 kw_6 s7
  clear hb7
  go_wp2_with fail
  go_ret
  exact ⟨rfl, bk_⟩
end Go.Proofs.Ytpnilnpgiampgaa
