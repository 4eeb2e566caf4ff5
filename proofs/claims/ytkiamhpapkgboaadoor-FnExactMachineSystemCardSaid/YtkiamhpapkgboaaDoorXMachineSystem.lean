/- Walk: the law FnExactMachineSystem. -/
import Derived.Test.YtkiamhpapkgboaaDoorMr3
import Derived.Test.YtkiamhpapkgboaaDoorKT
import Derived.Test.YtkiamhpapkgboaaDoorHMcH
import Derived.Test.YtkiamhpapkgboaaDoorHSysR
import Derived.Test.YtkiamhpapkgboaaDoorOrdFl
import Derived.Test.YtkiamhpapkgboaaDoorKB
import Derived.Test.YtkiamhpapkgboaaDoorKE
import Derived.Test.YtkiamhpapkgboaaDoorKH
namespace Go.Proofs.YtkiamhpapkgboaaDoor
open Go.RowKit
set_option linter.unusedSimpArgs false
set_option linter.unusedVariables false
attribute [local go_sem] BelowBy.cell BelowBy.cell_drew stillUpon givesUpon BelowBy.cell_drew2 BelowBy.cell_drew3

set_option maxRecDepth 100000 in
set_option maxHeartbeats 4000000 in
theorem FnExactMachineSystem_any (Q S : Int) (A : Option Addr) (q ca : Nat) (ms : List Mvm) (F : Option Addr) (nf cf : Nat) (fl : List Int) (h s : Int) (w : World) (hT : Tab w) (hA : RdSl 5 RMv w A q ms) (hlq : q ≤ 9223372036854775807) (hF : RdSl 1 RInt w F nf fl) (hlnf : nf ≤ 9223372036854775807) :
    Calls Tryd.prog 3 #[.agg #[.int .i64 Q, .int .i64 S, .slice A q ca], .agg #[.slice F nf cf, .int .i64 h, .int .i64 s]] w fun e w' => e = .returned (.bool true) ∧ Below w.heap.size w w' := by
  have hTab := Lib.hid hT
  clear hT
  have hRl := Lib.hid (machR_small Q S ms fl h s)
  go_enter Tryd.func3, Tryd.ntmps3
  have kw := bl_refl w
  go_wp2_with fail
  refine (szMachine_any _ _ _ _ _ _ _ (by omega) (by omega) hlq).mono ?_
  rintro e w1 ⟨r1, rfl, (rfl | ⟨hr10, hr11, hzq⟩), hb1⟩
  · go_wp2
    go_ret
    exact ⟨rfl, bl_tr bk_ hb1⟩
  have s1 : w.heap.size + 2 ≤ w1.heap.size := by have := hb1.size; (try simp at this); omega
  have s1H := Lib.hid s1
  have kw_1 : Below w.heap.size w w1 := bl_tr bk_ hb1
  have lb0_1 : w.heap.size < w1.heap.size := Nat.lt_of_lt_of_le (by go_simp) hb1.size
  have yb0_0_1 : w1.cell? ⟨w.heap.size, 0, none⟩ = some (.int .i64 Q) := (hb1.cell (p := ⟨w.heap.size, 0, none⟩) (by go_simp)).trans (by go_simp)
  have yb0_1_1 : w1.cell? ⟨w.heap.size, 1, none⟩ = some (.int .i64 S) := (hb1.cell (p := ⟨w.heap.size, 1, none⟩) (by go_simp)).trans (by go_simp)
  have yb0_2_1 : w1.cell? ⟨w.heap.size, 2, none⟩ = some (.slice A q ca) := (hb1.cell (p := ⟨w.heap.size, 2, none⟩) (by go_simp)).trans (by go_simp)
  have lb1_1 : w.heap.size + 1 < w1.heap.size := Nat.lt_of_lt_of_le (by go_simp) hb1.size
  have yb1_0_1 : w1.cell? ⟨w.heap.size + 1, 0, none⟩ = some (.slice F nf cf) := (hb1.cell (p := ⟨w.heap.size + 1, 0, none⟩) (by go_simp)).trans (by go_simp)
  have yb1_1_1 : w1.cell? ⟨w.heap.size + 1, 1, none⟩ = some (.int .i64 h) := (hb1.cell (p := ⟨w.heap.size + 1, 1, none⟩) (by go_simp)).trans (by go_simp)
  have yb1_2_1 : w1.cell? ⟨w.heap.size + 1, 2, none⟩ = some (.int .i64 s) := (hb1.cell (p := ⟨w.heap.size + 1, 2, none⟩) (by go_simp)).trans (by go_simp)
  clear kw s1
  clear hb1
  go_wp2_with fail
  refine (szConfig_any _ _ _ _ _ _ _ (by omega) (by omega) hlnf).mono ?_
  rintro e w2 ⟨r2, rfl, (rfl | ⟨hr20, hr21, hznf⟩), hb2⟩
  · go_wp2
    go_ret
    exact ⟨rfl, bl_tr bk_ hb2⟩
  have s2 : w1.heap.size ≤ w2.heap.size := by have := hb2.size; (try simp at this); omega
  have s2H := Lib.hid s2
  have kw_2 : Below w.heap.size w w2 := bl_tr bk_ hb2
  have lb0_2 : w.heap.size < w2.heap.size := Nat.lt_of_lt_of_le (by go_simp) hb2.size
  have yb0_0_2 : w2.cell? ⟨w.heap.size, 0, none⟩ = some (.int .i64 Q) := (hb2.cell (p := ⟨w.heap.size, 0, none⟩) (by go_simp)).trans (by go_simp)
  have yb0_1_2 : w2.cell? ⟨w.heap.size, 1, none⟩ = some (.int .i64 S) := (hb2.cell (p := ⟨w.heap.size, 1, none⟩) (by go_simp)).trans (by go_simp)
  have yb0_2_2 : w2.cell? ⟨w.heap.size, 2, none⟩ = some (.slice A q ca) := (hb2.cell (p := ⟨w.heap.size, 2, none⟩) (by go_simp)).trans (by go_simp)
  have lb1_2 : w.heap.size + 1 < w2.heap.size := Nat.lt_of_lt_of_le (by go_simp) hb2.size
  have yb1_0_2 : w2.cell? ⟨w.heap.size + 1, 0, none⟩ = some (.slice F nf cf) := (hb2.cell (p := ⟨w.heap.size + 1, 0, none⟩) (by go_simp)).trans (by go_simp)
  have yb1_1_2 : w2.cell? ⟨w.heap.size + 1, 1, none⟩ = some (.int .i64 h) := (hb2.cell (p := ⟨w.heap.size + 1, 1, none⟩) (by go_simp)).trans (by go_simp)
  have yb1_2_2 : w2.cell? ⟨w.heap.size + 1, 2, none⟩ = some (.int .i64 s) := (hb2.cell (p := ⟨w.heap.size + 1, 2, none⟩) (by go_simp)).trans (by go_simp)
  clear yb1_2_1 yb1_1_1 yb1_0_1 lb1_1 yb0_2_1 yb0_1_1 yb0_0_1 lb0_1 kw_1 s2
  clear hb2
  have kR3 : Below w2.heap.size w2 w2 := bl_refl _
  go_wp2_with fail
  refine wp_region_fl 8 [(0, .q), (2, .q), (1, .g), (3, .g), (4, .g), (5, .q), (6, .q), (7, .p)] [(9, .b), (10, .q)] _ (Obj.cells #[.slice none 0 0, .slice none 0 0, .slice none 0 0, .int .i64 0] 38) (by kernel_rfl) (by kernel_rfl) (by kernel_rfl) (by kernel_rfl) rfl (fun a w => ⟨rfl, by unfold flPtr; go_simp⟩) ?_
  simp only [pick, List.filterMap_cons, List.filterMap_nil, List.getElem?_toArray, List.getElem?_cons_zero, List.getElem?_cons_succ, Option.map_some]
  repeat (first | ((with_reducible refine wpL_p (fun K hK => ?_)); go_simp; refine hK _ ?_; clear hK K) | ((with_reducible refine wpL_q (fun K hK => ?_)); go_simp; (first | refine hK _ ?_ | (go_bits; refine hK _ ?_) | (go_bits; go_simp; refine hK _ ?_)); clear hK K))
  with_reducible refine wpL_g rfl (fun K hK st4 w4u mv4 => ?_)
  have hu4 := mv4.below
  have fu4 := (FlAt.none (Obj.cells #[.slice none 0 0, .slice none 0 0, .slice none 0 0, .int .i64 0] 38) (World.drew _)).mv mv4
  have Hmv4 := Lib.hid mv4
  clear mv4
  have s3 : w2.heap.size ≤ w4u.heap.size := by have := hu4.size; (try simp at this); omega
  have s3H := Lib.hid s3
  have kw_3 : Below w.heap.size w w4u := bl_tr bk_ hu4
  have kR3_3 : Below w2.heap.size w2 w4u := bl_tr bk_ hu4
  have lb0_3 : w.heap.size < w4u.heap.size := Nat.lt_of_lt_of_le (by go_simp) hu4.size
  have yb0_0_3 : w4u.cell? ⟨w.heap.size, 0, none⟩ = some (.int .i64 Q) := (hu4.cell (p := ⟨w.heap.size, 0, none⟩) (by go_simp)).trans (by go_simp)
  have yb0_1_3 : w4u.cell? ⟨w.heap.size, 1, none⟩ = some (.int .i64 S) := (hu4.cell (p := ⟨w.heap.size, 1, none⟩) (by go_simp)).trans (by go_simp)
  have yb0_2_3 : w4u.cell? ⟨w.heap.size, 2, none⟩ = some (.slice A q ca) := (hu4.cell (p := ⟨w.heap.size, 2, none⟩) (by go_simp)).trans (by go_simp)
  have lb1_3 : w.heap.size + 1 < w4u.heap.size := Nat.lt_of_lt_of_le (by go_simp) hu4.size
  have yb1_0_3 : w4u.cell? ⟨w.heap.size + 1, 0, none⟩ = some (.slice F nf cf) := (hu4.cell (p := ⟨w.heap.size + 1, 0, none⟩) (by go_simp)).trans (by go_simp)
  have yb1_1_3 : w4u.cell? ⟨w.heap.size + 1, 1, none⟩ = some (.int .i64 h) := (hu4.cell (p := ⟨w.heap.size + 1, 1, none⟩) (by go_simp)).trans (by go_simp)
  have yb1_2_3 : w4u.cell? ⟨w.heap.size + 1, 2, none⟩ = some (.int .i64 s) := (hu4.cell (p := ⟨w.heap.size + 1, 2, none⟩) (by go_simp)).trans (by go_simp)
  go_simp
  refine (toMachine_any _ _ _ _ _ ms _ (hA.below RMv.stable bk_) (by omega)).mono ?_
  rintro e w4 ⟨A4, rfl, o4, hb4⟩
  refine ⟨_, rfl, hb4, hK _ _ _ ?_⟩
  clear hK K
  have fd4 := fu4.below hb4
  have s4 : w4u.heap.size ≤ w4.heap.size := by have := hb4.size; (try simp at this); omega
  have s4H := Lib.hid s4
  have kw_4 : Below w.heap.size w w4 := bl_tr bk_ hb4
  have kR3_4 : Below w2.heap.size w2 w4 := bl_tr bk_ hb4
  have lb0_4 : w.heap.size < w4.heap.size := Nat.lt_of_lt_of_le (by go_simp) hb4.size
  have yb0_0_4 : w4.cell? ⟨w.heap.size, 0, none⟩ = some (.int .i64 Q) := (hb4.cell (p := ⟨w.heap.size, 0, none⟩) (by go_simp)).trans (by go_simp)
  have yb0_1_4 : w4.cell? ⟨w.heap.size, 1, none⟩ = some (.int .i64 S) := (hb4.cell (p := ⟨w.heap.size, 1, none⟩) (by go_simp)).trans (by go_simp)
  have yb0_2_4 : w4.cell? ⟨w.heap.size, 2, none⟩ = some (.slice A q ca) := (hb4.cell (p := ⟨w.heap.size, 2, none⟩) (by go_simp)).trans (by go_simp)
  have lb1_4 : w.heap.size + 1 < w4.heap.size := Nat.lt_of_lt_of_le (by go_simp) hb4.size
  have yb1_0_4 : w4.cell? ⟨w.heap.size + 1, 0, none⟩ = some (.slice F nf cf) := (hb4.cell (p := ⟨w.heap.size + 1, 0, none⟩) (by go_simp)).trans (by go_simp)
  have yb1_1_4 : w4.cell? ⟨w.heap.size + 1, 1, none⟩ = some (.int .i64 h) := (hb4.cell (p := ⟨w.heap.size + 1, 1, none⟩) (by go_simp)).trans (by go_simp)
  have yb1_2_4 : w4.cell? ⟨w.heap.size + 1, 2, none⟩ = some (.int .i64 s) := (hb4.cell (p := ⟨w.heap.size + 1, 2, none⟩) (by go_simp)).trans (by go_simp)
  clear hb4
  have kc4 : Below w4.heap.size w4 w4 := bl_refl _
  have o4H := Lib.hid o4
  clear o4
  with_reducible refine wpL_g rfl (fun K hK st5 w5u mv5 => ?_)
  have hu5 := mv5.below
  have fu5 := fd4.mv mv5
  have Hmv5 := Lib.hid mv5
  clear mv5
  have s5 : w4.heap.size ≤ w5u.heap.size := by have := hu5.size; (try simp at this); omega
  have s5H := Lib.hid s5
  have kw_5 : Below w.heap.size w w5u := bl_tr bk_ hu5
  have kR3_5 : Below w2.heap.size w2 w5u := bl_tr bk_ hu5
  have kc4_5 : Below w4.heap.size w4 w5u := bl_tr bk_ hu5
  have lb0_5 : w.heap.size < w5u.heap.size := Nat.lt_of_lt_of_le (by go_simp) hu5.size
  have yb0_0_5 : w5u.cell? ⟨w.heap.size, 0, none⟩ = some (.int .i64 Q) := (hu5.cell (p := ⟨w.heap.size, 0, none⟩) (by go_simp)).trans (by go_simp)
  have yb0_1_5 : w5u.cell? ⟨w.heap.size, 1, none⟩ = some (.int .i64 S) := (hu5.cell (p := ⟨w.heap.size, 1, none⟩) (by go_simp)).trans (by go_simp)
  have yb0_2_5 : w5u.cell? ⟨w.heap.size, 2, none⟩ = some (.slice A q ca) := (hu5.cell (p := ⟨w.heap.size, 2, none⟩) (by go_simp)).trans (by go_simp)
  have lb1_5 : w.heap.size + 1 < w5u.heap.size := Nat.lt_of_lt_of_le (by go_simp) hu5.size
  have yb1_0_5 : w5u.cell? ⟨w.heap.size + 1, 0, none⟩ = some (.slice F nf cf) := (hu5.cell (p := ⟨w.heap.size + 1, 0, none⟩) (by go_simp)).trans (by go_simp)
  have yb1_1_5 : w5u.cell? ⟨w.heap.size + 1, 1, none⟩ = some (.int .i64 h) := (hu5.cell (p := ⟨w.heap.size + 1, 1, none⟩) (by go_simp)).trans (by go_simp)
  have yb1_2_5 : w5u.cell? ⟨w.heap.size + 1, 2, none⟩ = some (.int .i64 s) := (hu5.cell (p := ⟨w.heap.size + 1, 2, none⟩) (by go_simp)).trans (by go_simp)
  go_simp
  refine (toConfig_any _ _ _ _ _ fl _ (hF.below RInt.stable bk_) (by omega)).mono ?_
  rintro e w5 ⟨F5, rfl, o5, hb5⟩
  refine ⟨_, rfl, hb5, hK _ _ _ ?_⟩
  clear hK K
  have fd5 := fu5.below hb5
  have s6 : w5u.heap.size ≤ w5.heap.size := by have := hb5.size; (try simp at this); omega
  have s6H := Lib.hid s6
  have kw_6 : Below w.heap.size w w5 := bl_tr bk_ hb5
  have kR3_6 : Below w2.heap.size w2 w5 := bl_tr bk_ hb5
  have kc4_6 : Below w4.heap.size w4 w5 := bl_tr bk_ hb5
  have lb0_6 : w.heap.size < w5.heap.size := Nat.lt_of_lt_of_le (by go_simp) hb5.size
  have yb0_0_6 : w5.cell? ⟨w.heap.size, 0, none⟩ = some (.int .i64 Q) := (hb5.cell (p := ⟨w.heap.size, 0, none⟩) (by go_simp)).trans (by go_simp)
  have yb0_1_6 : w5.cell? ⟨w.heap.size, 1, none⟩ = some (.int .i64 S) := (hb5.cell (p := ⟨w.heap.size, 1, none⟩) (by go_simp)).trans (by go_simp)
  have yb0_2_6 : w5.cell? ⟨w.heap.size, 2, none⟩ = some (.slice A q ca) := (hb5.cell (p := ⟨w.heap.size, 2, none⟩) (by go_simp)).trans (by go_simp)
  have lb1_6 : w.heap.size + 1 < w5.heap.size := Nat.lt_of_lt_of_le (by go_simp) hb5.size
  have yb1_0_6 : w5.cell? ⟨w.heap.size + 1, 0, none⟩ = some (.slice F nf cf) := (hb5.cell (p := ⟨w.heap.size + 1, 0, none⟩) (by go_simp)).trans (by go_simp)
  have yb1_1_6 : w5.cell? ⟨w.heap.size + 1, 1, none⟩ = some (.int .i64 h) := (hb5.cell (p := ⟨w.heap.size + 1, 1, none⟩) (by go_simp)).trans (by go_simp)
  have yb1_2_6 : w5.cell? ⟨w.heap.size + 1, 2, none⟩ = some (.int .i64 s) := (hb5.cell (p := ⟨w.heap.size + 1, 2, none⟩) (by go_simp)).trans (by go_simp)
  clear hb5
  have kc5 : Below w5.heap.size w5 w5 := bl_refl _
  have o5H := Lib.hid o5
  clear o5
  with_reducible refine wpL_g rfl (fun K hK st6 w6u mv6 => ?_)
  have hu6 := mv6.below
  have fu6 := fd5.mv mv6
  have Hmv6 := Lib.hid mv6
  clear mv6
  have s7 : w5.heap.size ≤ w6u.heap.size := by have := hu6.size; (try simp at this); omega
  have s7H := Lib.hid s7
  have kw_7 : Below w.heap.size w w6u := bl_tr bk_ hu6
  have kR3_7 : Below w2.heap.size w2 w6u := bl_tr bk_ hu6
  have kc4_7 : Below w4.heap.size w4 w6u := bl_tr bk_ hu6
  have kc5_7 : Below w5.heap.size w5 w6u := bl_tr bk_ hu6
  have lb0_7 : w.heap.size < w6u.heap.size := Nat.lt_of_lt_of_le (by go_simp) hu6.size
  have yb0_0_7 : w6u.cell? ⟨w.heap.size, 0, none⟩ = some (.int .i64 Q) := (hu6.cell (p := ⟨w.heap.size, 0, none⟩) (by go_simp)).trans (by go_simp)
  have yb0_1_7 : w6u.cell? ⟨w.heap.size, 1, none⟩ = some (.int .i64 S) := (hu6.cell (p := ⟨w.heap.size, 1, none⟩) (by go_simp)).trans (by go_simp)
  have yb0_2_7 : w6u.cell? ⟨w.heap.size, 2, none⟩ = some (.slice A q ca) := (hu6.cell (p := ⟨w.heap.size, 2, none⟩) (by go_simp)).trans (by go_simp)
  have lb1_7 : w.heap.size + 1 < w6u.heap.size := Nat.lt_of_lt_of_le (by go_simp) hu6.size
  have yb1_0_7 : w6u.cell? ⟨w.heap.size + 1, 0, none⟩ = some (.slice F nf cf) := (hu6.cell (p := ⟨w.heap.size + 1, 0, none⟩) (by go_simp)).trans (by go_simp)
  have yb1_1_7 : w6u.cell? ⟨w.heap.size + 1, 1, none⟩ = some (.int .i64 h) := (hu6.cell (p := ⟨w.heap.size + 1, 1, none⟩) (by go_simp)).trans (by go_simp)
  have yb1_2_7 : w6u.cell? ⟨w.heap.size + 1, 2, none⟩ = some (.int .i64 s) := (hu6.cell (p := ⟨w.heap.size + 1, 2, none⟩) (by go_simp)).trans (by go_simp)
  go_simp
  refine (sMachineSystem_any Q S h s _ _ _ _ _ _ ms fl _ (o4H.out.rd.below RMv.stable bk_) (o5H.out.rd.below RInt.stable bk_) (by omega) (by omega)).mono ?_
  rintro e w6 ⟨VA6, VB6, VC6, ka6, kb6, kd6, us6, rfl, v6, hb6⟩
  refine ⟨_, rfl, hb6, hK _ _ _ ?_⟩
  clear hK K
  have fd6 := fu6.below hb6
  have s8 : w6u.heap.size ≤ w6.heap.size := by have := hb6.size; (try simp at this); omega
  have s8H := Lib.hid s8
  have kw_8 : Below w.heap.size w w6 := bl_tr bk_ hb6
  have kR3_8 : Below w2.heap.size w2 w6 := bl_tr bk_ hb6
  have kc4_8 : Below w4.heap.size w4 w6 := bl_tr bk_ hb6
  have kc5_8 : Below w5.heap.size w5 w6 := bl_tr bk_ hb6
  have lb0_8 : w.heap.size < w6.heap.size := Nat.lt_of_lt_of_le (by go_simp) hb6.size
  have yb0_0_8 : w6.cell? ⟨w.heap.size, 0, none⟩ = some (.int .i64 Q) := (hb6.cell (p := ⟨w.heap.size, 0, none⟩) (by go_simp)).trans (by go_simp)
  have yb0_1_8 : w6.cell? ⟨w.heap.size, 1, none⟩ = some (.int .i64 S) := (hb6.cell (p := ⟨w.heap.size, 1, none⟩) (by go_simp)).trans (by go_simp)
  have yb0_2_8 : w6.cell? ⟨w.heap.size, 2, none⟩ = some (.slice A q ca) := (hb6.cell (p := ⟨w.heap.size, 2, none⟩) (by go_simp)).trans (by go_simp)
  have lb1_8 : w.heap.size + 1 < w6.heap.size := Nat.lt_of_lt_of_le (by go_simp) hb6.size
  have yb1_0_8 : w6.cell? ⟨w.heap.size + 1, 0, none⟩ = some (.slice F nf cf) := (hb6.cell (p := ⟨w.heap.size + 1, 0, none⟩) (by go_simp)).trans (by go_simp)
  have yb1_1_8 : w6.cell? ⟨w.heap.size + 1, 1, none⟩ = some (.int .i64 h) := (hb6.cell (p := ⟨w.heap.size + 1, 1, none⟩) (by go_simp)).trans (by go_simp)
  have yb1_2_8 : w6.cell? ⟨w.heap.size + 1, 2, none⟩ = some (.int .i64 s) := (hb6.cell (p := ⟨w.heap.size + 1, 2, none⟩) (by go_simp)).trans (by go_simp)
  clear hb6
  have kr6 : Below w6.heap.size w6 w6 := bl_refl _
  have v6H := Lib.hid v6
  clear v6
  repeat (first | ((with_reducible refine wpL_p (fun K hK => ?_)); go_simp; refine hK _ ?_; clear hK K) | ((with_reducible refine wpL_q (fun K hK => ?_)); go_simp; (first | refine hK _ ?_ | (go_bits; refine hK _ ?_) | (go_bits; go_simp; refine hK _ ?_)); clear hK K))
  with_reducible refine wpL_nil (fun bF3 w3f mvF => ?_)
  have huF := mvF.below
  obtain ⟨fl3, fb3⟩ := (fd6.mv mvF).2 _ rfl
  clear mvF
  have s9 : w6.heap.size ≤ w3f.heap.size := by have := huF.size; (try simp at this); omega
  have s9H := Lib.hid s9
  have kw_9 : Below w.heap.size w w3f := bl_tr bk_ huF
  have kR3_9 : Below w2.heap.size w2 w3f := bl_tr bk_ huF
  have kc4_9 : Below w4.heap.size w4 w3f := bl_tr bk_ huF
  have kc5_9 : Below w5.heap.size w5 w3f := bl_tr bk_ huF
  have kr6_9 : Below w6.heap.size w6 w3f := bl_tr bk_ huF
  have lb0_9 : w.heap.size < w3f.heap.size := Nat.lt_of_lt_of_le (by go_simp) huF.size
  have yb0_0_9 : w3f.cell? ⟨w.heap.size, 0, none⟩ = some (.int .i64 Q) := (huF.cell (p := ⟨w.heap.size, 0, none⟩) (by go_simp)).trans (by go_simp)
  have yb0_1_9 : w3f.cell? ⟨w.heap.size, 1, none⟩ = some (.int .i64 S) := (huF.cell (p := ⟨w.heap.size, 1, none⟩) (by go_simp)).trans (by go_simp)
  have yb0_2_9 : w3f.cell? ⟨w.heap.size, 2, none⟩ = some (.slice A q ca) := (huF.cell (p := ⟨w.heap.size, 2, none⟩) (by go_simp)).trans (by go_simp)
  have lb1_9 : w.heap.size + 1 < w3f.heap.size := Nat.lt_of_lt_of_le (by go_simp) huF.size
  have yb1_0_9 : w3f.cell? ⟨w.heap.size + 1, 0, none⟩ = some (.slice F nf cf) := (huF.cell (p := ⟨w.heap.size + 1, 0, none⟩) (by go_simp)).trans (by go_simp)
  have yb1_1_9 : w3f.cell? ⟨w.heap.size + 1, 1, none⟩ = some (.int .i64 h) := (huF.cell (p := ⟨w.heap.size + 1, 1, none⟩) (by go_simp)).trans (by go_simp)
  have yb1_2_9 : w3f.cell? ⟨w.heap.size + 1, 2, none⟩ = some (.int .i64 s) := (huF.cell (p := ⟨w.heap.size + 1, 2, none⟩) (by go_simp)).trans (by go_simp)
  simp only [World.size_drew] at fl3
  have rF : w3f.rowIs bF3 38 4 (fun i => (#[.slice none 0 0, .slice none 0 0, .slice none 0 0, .int .i64 0] : Array Value).getD i undef) := ⟨_, fb3, rfl, fun i hi => by simp [hi]⟩
  have yF0 := rF.cell (i := 0) (by decide)
  have kF0 := rF.frozen 0
  have yF1 := rF.cell (i := 1) (by decide)
  have kF1 := rF.frozen 1
  have yF2 := rF.cell (i := 2) (by decide)
  have kF2 := rF.frozen 2
  have yF3 := rF.cell (i := 3) (by decide)
  have kF3 := rF.frozen 3
  have rFH := Lib.hid rF
  clear rF
  have vF6_0 := OwnSy.below v6H.out kr6_9
  have vF6_0H := Lib.hid vF6_0
  clear vF6_0
  simp only [flPtr]
  with_reducible refine wpD_b (fun K hK => ?_)
  go_simp
  refine hK _ _ ?_
  clear hK K
  repeat (first | ((with_reducible refine wpD_p (fun K hK => ?_)); go_simp; refine hK _ ?_; clear hK K) | ((with_reducible refine wpD_q (fun K hK => ?_)); go_simp; (first | refine hK _ ?_ | (go_bits; refine hK _ ?_) | (go_bits; go_simp; refine hK _ ?_)); clear hK K))
  with_reducible refine wpD_nil ?_
  obtain ⟨w7, hV⟩ : ∃ V, V = ((((w3f.setCell ⟨bF3, 0, none⟩ (.slice VA6 (machR Q S ms fl h s).1.gs.length ka6)).setCell ⟨bF3, 1, none⟩ (.slice VB6 (machR Q S ms fl h s).1.ts.length kb6)).setCell ⟨bF3, 2, none⟩ (.slice VC6 (machR Q S ms fl h s).1.xs.length kd6)).setCell ⟨bF3, 3, none⟩ (.int .i64 (machR Q S ms fl h s).1.t)) := ⟨_, rfl⟩
  rw [← hV]
  have rV := ((((rFH.out.set 0 (.slice VA6 (machR Q S ms fl h s).1.gs.length ka6)).set 1 (.slice VB6 (machR Q S ms fl h s).1.ts.length kb6)).set 2 (.slice VC6 (machR Q S ms fl h s).1.xs.length kd6)).set 3 (.int .i64 (machR Q S ms fl h s).1.t))
  have hb7 := ((((kR3_9.setCell (p := ⟨bF3, 0, none⟩) fl3 (.slice VA6 (machR Q S ms fl h s).1.gs.length ka6)).setCell (p := ⟨bF3, 1, none⟩) fl3 (.slice VB6 (machR Q S ms fl h s).1.ts.length kb6)).setCell (p := ⟨bF3, 2, none⟩) fl3 (.slice VC6 (machR Q S ms fl h s).1.xs.length kd6)).setCell (p := ⟨bF3, 3, none⟩) fl3 (.int .i64 (machR Q S ms fl h s).1.t))
  rw [← hV] at rV hb7
  have yg3_0 : w7.cell? ⟨bF3, 0, none⟩ = some (.slice VA6 (machR Q S ms fl h s).1.gs.length ka6) := by rw [rV.cell (i := 0) (by decide)]; simp
  have yg3_1 : w7.cell? ⟨bF3, 1, none⟩ = some (.slice VB6 (machR Q S ms fl h s).1.ts.length kb6) := by rw [rV.cell (i := 1) (by decide)]; simp
  have yg3_2 : w7.cell? ⟨bF3, 2, none⟩ = some (.slice VC6 (machR Q S ms fl h s).1.xs.length kd6) := by rw [rV.cell (i := 2) (by decide)]; simp
  have yg3_3 : w7.cell? ⟨bF3, 3, none⟩ = some (.int .i64 (machR Q S ms fl h s).1.t) := by rw [rV.cell (i := 3) (by decide)]; simp
  have lg3 := rV.lt
  have sF3H := Lib.hid lg3
  have vV6_0 := (OwnSy.fl (g := bF3) (i := 3) (OwnSy.fl (g := bF3) (i := 2) (OwnSy.fl (g := bF3) (i := 1) (OwnSy.fl (g := bF3) (i := 0) vF6_0H.out rFH.out (by decide) (.slice VA6 (machR Q S ms fl h s).1.gs.length ka6)) (rFH.out.set 0 (.slice VA6 (machR Q S ms fl h s).1.gs.length ka6)) (by decide) (.slice VB6 (machR Q S ms fl h s).1.ts.length kb6)) ((rFH.out.set 0 (.slice VA6 (machR Q S ms fl h s).1.gs.length ka6)).set 1 (.slice VB6 (machR Q S ms fl h s).1.ts.length kb6)) (by decide) (.slice VC6 (machR Q S ms fl h s).1.xs.length kd6)) (((rFH.out.set 0 (.slice VA6 (machR Q S ms fl h s).1.gs.length ka6)).set 1 (.slice VB6 (machR Q S ms fl h s).1.ts.length kb6)).set 2 (.slice VC6 (machR Q S ms fl h s).1.xs.length kd6)) (by decide) (.int .i64 (machR Q S ms fl h s).1.t))
  rw [← hV] at vV6_0
  have vV6_0H := Lib.hid vV6_0
  clear vV6_0
  clear yF3 kF3 yF2 kF2 yF1 kF1 yF0 kF0 rV
  have s10 : w2.heap.size ≤ w7.heap.size := by have := hb7.size; (try simp at this); omega
  have s10H := Lib.hid s10
  have kw_10 : Below w.heap.size w w7 := bl_tr bk_ hb7
  have lb0_10 : w.heap.size < w7.heap.size := Nat.lt_of_lt_of_le (by go_simp) hb7.size
  have yb0_0_10 : w7.cell? ⟨w.heap.size, 0, none⟩ = some (.int .i64 Q) := (hb7.cell (p := ⟨w.heap.size, 0, none⟩) (by go_simp)).trans (by go_simp)
  have yb0_1_10 : w7.cell? ⟨w.heap.size, 1, none⟩ = some (.int .i64 S) := (hb7.cell (p := ⟨w.heap.size, 1, none⟩) (by go_simp)).trans (by go_simp)
  have yb0_2_10 : w7.cell? ⟨w.heap.size, 2, none⟩ = some (.slice A q ca) := (hb7.cell (p := ⟨w.heap.size, 2, none⟩) (by go_simp)).trans (by go_simp)
  have lb1_10 : w.heap.size + 1 < w7.heap.size := Nat.lt_of_lt_of_le (by go_simp) hb7.size
  have yb1_0_10 : w7.cell? ⟨w.heap.size + 1, 0, none⟩ = some (.slice F nf cf) := (hb7.cell (p := ⟨w.heap.size + 1, 0, none⟩) (by go_simp)).trans (by go_simp)
  have yb1_1_10 : w7.cell? ⟨w.heap.size + 1, 1, none⟩ = some (.int .i64 h) := (hb7.cell (p := ⟨w.heap.size + 1, 1, none⟩) (by go_simp)).trans (by go_simp)
  have yb1_2_10 : w7.cell? ⟨w.heap.size + 1, 2, none⟩ = some (.int .i64 s) := (hb7.cell (p := ⟨w.heap.size + 1, 2, none⟩) (by go_simp)).trans (by go_simp)
  clear yb1_2_2 yb1_1_2 yb1_0_2 lb1_2 yb0_2_2 yb0_1_2 yb0_0_2 lb0_2 kw_2 s10
  clear hV hb7
  have krV3 : Below w7.heap.size w7 w7 := bl_refl _
  go_wp2_with fail
  refine (toMachine_any _ _ _ _ _ ms _ (hA.below RMv.stable bk_) (by omega)).mono ?_
  rintro e w8 ⟨A8, rfl, o8, hb8⟩
  have s11 : w7.heap.size ≤ w8.heap.size := by have := hb8.size; (try simp at this); omega
  have s11H := Lib.hid s11
  have kw_11 : Below w.heap.size w w8 := bl_tr bk_ hb8
  have krV3_11 : Below w7.heap.size w7 w8 := bl_tr bk_ hb8
  have lb0_11 : w.heap.size < w8.heap.size := Nat.lt_of_lt_of_le (by go_simp) hb8.size
  have yb0_0_11 : w8.cell? ⟨w.heap.size, 0, none⟩ = some (.int .i64 Q) := (hb8.cell (p := ⟨w.heap.size, 0, none⟩) (by go_simp)).trans (by go_simp)
  have yb0_1_11 : w8.cell? ⟨w.heap.size, 1, none⟩ = some (.int .i64 S) := (hb8.cell (p := ⟨w.heap.size, 1, none⟩) (by go_simp)).trans (by go_simp)
  have yb0_2_11 : w8.cell? ⟨w.heap.size, 2, none⟩ = some (.slice A q ca) := (hb8.cell (p := ⟨w.heap.size, 2, none⟩) (by go_simp)).trans (by go_simp)
  have lb1_11 : w.heap.size + 1 < w8.heap.size := Nat.lt_of_lt_of_le (by go_simp) hb8.size
  have yb1_0_11 : w8.cell? ⟨w.heap.size + 1, 0, none⟩ = some (.slice F nf cf) := (hb8.cell (p := ⟨w.heap.size + 1, 0, none⟩) (by go_simp)).trans (by go_simp)
  have yb1_1_11 : w8.cell? ⟨w.heap.size + 1, 1, none⟩ = some (.int .i64 h) := (hb8.cell (p := ⟨w.heap.size + 1, 1, none⟩) (by go_simp)).trans (by go_simp)
  have yb1_2_11 : w8.cell? ⟨w.heap.size + 1, 2, none⟩ = some (.int .i64 s) := (hb8.cell (p := ⟨w.heap.size + 1, 2, none⟩) (by go_simp)).trans (by go_simp)
  have lb2_11 : bF3 < w8.heap.size := Nat.lt_of_lt_of_le (by go_simp) hb8.size
  have yb2_0_11 : w8.cell? ⟨bF3, 0, none⟩ = some (.slice VA6 (machR Q S ms fl h s).1.gs.length ka6) := (hb8.cell (p := ⟨bF3, 0, none⟩) (by go_simp)).trans (by go_simp)
  have yb2_1_11 : w8.cell? ⟨bF3, 1, none⟩ = some (.slice VB6 (machR Q S ms fl h s).1.ts.length kb6) := (hb8.cell (p := ⟨bF3, 1, none⟩) (by go_simp)).trans (by go_simp)
  have yb2_2_11 : w8.cell? ⟨bF3, 2, none⟩ = some (.slice VC6 (machR Q S ms fl h s).1.xs.length kd6) := (hb8.cell (p := ⟨bF3, 2, none⟩) (by go_simp)).trans (by go_simp)
  have yb2_3_11 : w8.cell? ⟨bF3, 3, none⟩ = some (.int .i64 (machR Q S ms fl h s).1.t) := (hb8.cell (p := ⟨bF3, 3, none⟩) (by go_simp)).trans (by go_simp)
  clear yg3_3 yg3_2 yg3_1 yg3_0 lg3 yb1_2_10 yb1_1_10 yb1_0_10 lb1_10 yb0_2_10 yb0_1_10 yb0_0_10 lb0_10 krV3 kw_10 s11
  clear hb8
  have kc8 : Below w8.heap.size w8 w8 := bl_refl _
  have o8H := Lib.hid o8
  clear o8
  go_wp2_with fail
  refine (toConfig_any _ _ _ _ _ fl _ (hF.below RInt.stable bk_) (by omega)).mono ?_
  rintro e w9 ⟨F9, rfl, o9, hb9⟩
  have s12 : w8.heap.size + 1 ≤ w9.heap.size := by have := hb9.size; (try simp at this); omega
  have s12H := Lib.hid s12
  have kw_12 : Below w.heap.size w w9 := bl_tr bk_ hb9
  have krV3_12 : Below w7.heap.size w7 w9 := bl_tr bk_ hb9
  have kc8_12 : Below w8.heap.size w8 w9 := bl_tr bk_ hb9
  have lb0_12 : w.heap.size < w9.heap.size := Nat.lt_of_lt_of_le (by go_simp) hb9.size
  have yb0_0_12 : w9.cell? ⟨w.heap.size, 0, none⟩ = some (.int .i64 Q) := (hb9.cell (p := ⟨w.heap.size, 0, none⟩) (by go_simp)).trans (by go_simp)
  have yb0_1_12 : w9.cell? ⟨w.heap.size, 1, none⟩ = some (.int .i64 S) := (hb9.cell (p := ⟨w.heap.size, 1, none⟩) (by go_simp)).trans (by go_simp)
  have yb0_2_12 : w9.cell? ⟨w.heap.size, 2, none⟩ = some (.slice A q ca) := (hb9.cell (p := ⟨w.heap.size, 2, none⟩) (by go_simp)).trans (by go_simp)
  have lb1_12 : w.heap.size + 1 < w9.heap.size := Nat.lt_of_lt_of_le (by go_simp) hb9.size
  have yb1_0_12 : w9.cell? ⟨w.heap.size + 1, 0, none⟩ = some (.slice F nf cf) := (hb9.cell (p := ⟨w.heap.size + 1, 0, none⟩) (by go_simp)).trans (by go_simp)
  have yb1_1_12 : w9.cell? ⟨w.heap.size + 1, 1, none⟩ = some (.int .i64 h) := (hb9.cell (p := ⟨w.heap.size + 1, 1, none⟩) (by go_simp)).trans (by go_simp)
  have yb1_2_12 : w9.cell? ⟨w.heap.size + 1, 2, none⟩ = some (.int .i64 s) := (hb9.cell (p := ⟨w.heap.size + 1, 2, none⟩) (by go_simp)).trans (by go_simp)
  have lb2_12 : bF3 < w9.heap.size := Nat.lt_of_lt_of_le (by go_simp) hb9.size
  have yb2_0_12 : w9.cell? ⟨bF3, 0, none⟩ = some (.slice VA6 (machR Q S ms fl h s).1.gs.length ka6) := (hb9.cell (p := ⟨bF3, 0, none⟩) (by go_simp)).trans (by go_simp)
  have yb2_1_12 : w9.cell? ⟨bF3, 1, none⟩ = some (.slice VB6 (machR Q S ms fl h s).1.ts.length kb6) := (hb9.cell (p := ⟨bF3, 1, none⟩) (by go_simp)).trans (by go_simp)
  have yb2_2_12 : w9.cell? ⟨bF3, 2, none⟩ = some (.slice VC6 (machR Q S ms fl h s).1.xs.length kd6) := (hb9.cell (p := ⟨bF3, 2, none⟩) (by go_simp)).trans (by go_simp)
  have yb2_3_12 : w9.cell? ⟨bF3, 3, none⟩ = some (.int .i64 (machR Q S ms fl h s).1.t) := (hb9.cell (p := ⟨bF3, 3, none⟩) (by go_simp)).trans (by go_simp)
  have lb3_12 : w8.heap.size < w9.heap.size := Nat.lt_of_lt_of_le (by go_simp) hb9.size
  have yb3_0_12 : w9.cell? ⟨w8.heap.size, 0, none⟩ = some (.int .i64 Q) := (hb9.cell (p := ⟨w8.heap.size, 0, none⟩) (by go_simp)).trans (by go_simp)
  have yb3_1_12 : w9.cell? ⟨w8.heap.size, 1, none⟩ = some (.int .i64 S) := (hb9.cell (p := ⟨w8.heap.size, 1, none⟩) (by go_simp)).trans (by go_simp)
  have yb3_2_12 : w9.cell? ⟨w8.heap.size, 2, none⟩ = some (.slice A8 q q) := (hb9.cell (p := ⟨w8.heap.size, 2, none⟩) (by go_simp)).trans (by go_simp)
  clear yb2_3_11 yb2_2_11 yb2_1_11 yb2_0_11 lb2_11 yb1_2_11 yb1_1_11 yb1_0_11 lb1_11 yb0_2_11 yb0_1_11 yb0_0_11 lb0_11 kc8 krV3_11 kw_11 s12
  clear hb9
  have kc9 : Below w9.heap.size w9 w9 := bl_refl _
  have o9H := Lib.hid o9
  clear o9
  go_wp2_with fail
  refine (MachineSystem_any Q S h s _ _ _ _ _ _ ms fl _ (o8H.out.rd.below RMv.stable bk_) (o9H.out.rd.below RInt.stable bk_) (by omega) (by omega) (hTab.out.below bk_)).mono ?_
  rintro e w10 ⟨VA10, VB10, VC10, ka10, kb10, kd10, us10, rfl, v10, hb10⟩
  have s13 : w9.heap.size + 1 ≤ w10.heap.size := by have := hb10.size; (try simp at this); omega
  have s13H := Lib.hid s13
  have kw_13 : Below w.heap.size w w10 := bl_tr bk_ hb10
  have krV3_13 : Below w7.heap.size w7 w10 := bl_tr bk_ hb10
  have kc8_13 : Below w8.heap.size w8 w10 := bl_tr bk_ hb10
  have kc9_13 : Below w9.heap.size w9 w10 := bl_tr bk_ hb10
  have lb0_13 : w.heap.size < w10.heap.size := Nat.lt_of_lt_of_le (by go_simp) hb10.size
  have yb0_0_13 : w10.cell? ⟨w.heap.size, 0, none⟩ = some (.int .i64 Q) := (hb10.cell (p := ⟨w.heap.size, 0, none⟩) (by go_simp)).trans (by go_simp)
  have yb0_1_13 : w10.cell? ⟨w.heap.size, 1, none⟩ = some (.int .i64 S) := (hb10.cell (p := ⟨w.heap.size, 1, none⟩) (by go_simp)).trans (by go_simp)
  have yb0_2_13 : w10.cell? ⟨w.heap.size, 2, none⟩ = some (.slice A q ca) := (hb10.cell (p := ⟨w.heap.size, 2, none⟩) (by go_simp)).trans (by go_simp)
  have lb1_13 : w.heap.size + 1 < w10.heap.size := Nat.lt_of_lt_of_le (by go_simp) hb10.size
  have yb1_0_13 : w10.cell? ⟨w.heap.size + 1, 0, none⟩ = some (.slice F nf cf) := (hb10.cell (p := ⟨w.heap.size + 1, 0, none⟩) (by go_simp)).trans (by go_simp)
  have yb1_1_13 : w10.cell? ⟨w.heap.size + 1, 1, none⟩ = some (.int .i64 h) := (hb10.cell (p := ⟨w.heap.size + 1, 1, none⟩) (by go_simp)).trans (by go_simp)
  have yb1_2_13 : w10.cell? ⟨w.heap.size + 1, 2, none⟩ = some (.int .i64 s) := (hb10.cell (p := ⟨w.heap.size + 1, 2, none⟩) (by go_simp)).trans (by go_simp)
  have lb2_13 : bF3 < w10.heap.size := Nat.lt_of_lt_of_le (by go_simp) hb10.size
  have yb2_0_13 : w10.cell? ⟨bF3, 0, none⟩ = some (.slice VA6 (machR Q S ms fl h s).1.gs.length ka6) := (hb10.cell (p := ⟨bF3, 0, none⟩) (by go_simp)).trans (by go_simp)
  have yb2_1_13 : w10.cell? ⟨bF3, 1, none⟩ = some (.slice VB6 (machR Q S ms fl h s).1.ts.length kb6) := (hb10.cell (p := ⟨bF3, 1, none⟩) (by go_simp)).trans (by go_simp)
  have yb2_2_13 : w10.cell? ⟨bF3, 2, none⟩ = some (.slice VC6 (machR Q S ms fl h s).1.xs.length kd6) := (hb10.cell (p := ⟨bF3, 2, none⟩) (by go_simp)).trans (by go_simp)
  have yb2_3_13 : w10.cell? ⟨bF3, 3, none⟩ = some (.int .i64 (machR Q S ms fl h s).1.t) := (hb10.cell (p := ⟨bF3, 3, none⟩) (by go_simp)).trans (by go_simp)
  have lb3_13 : w8.heap.size < w10.heap.size := Nat.lt_of_lt_of_le (by go_simp) hb10.size
  have yb3_0_13 : w10.cell? ⟨w8.heap.size, 0, none⟩ = some (.int .i64 Q) := (hb10.cell (p := ⟨w8.heap.size, 0, none⟩) (by go_simp)).trans (by go_simp)
  have yb3_1_13 : w10.cell? ⟨w8.heap.size, 1, none⟩ = some (.int .i64 S) := (hb10.cell (p := ⟨w8.heap.size, 1, none⟩) (by go_simp)).trans (by go_simp)
  have yb3_2_13 : w10.cell? ⟨w8.heap.size, 2, none⟩ = some (.slice A8 q q) := (hb10.cell (p := ⟨w8.heap.size, 2, none⟩) (by go_simp)).trans (by go_simp)
  have lb4_13 : w9.heap.size < w10.heap.size := Nat.lt_of_lt_of_le (by go_simp) hb10.size
  have yb4_0_13 : w10.cell? ⟨w9.heap.size, 0, none⟩ = some (.slice F9 nf nf) := (hb10.cell (p := ⟨w9.heap.size, 0, none⟩) (by go_simp)).trans (by go_simp)
  have yb4_1_13 : w10.cell? ⟨w9.heap.size, 1, none⟩ = some (.int .i64 h) := (hb10.cell (p := ⟨w9.heap.size, 1, none⟩) (by go_simp)).trans (by go_simp)
  have yb4_2_13 : w10.cell? ⟨w9.heap.size, 2, none⟩ = some (.int .i64 s) := (hb10.cell (p := ⟨w9.heap.size, 2, none⟩) (by go_simp)).trans (by go_simp)
  clear yb3_2_12 yb3_1_12 yb3_0_12 lb3_12 yb2_3_12 yb2_2_12 yb2_1_12 yb2_0_12 lb2_12 yb1_2_12 yb1_1_12 yb1_0_12 lb1_12 yb0_2_12 yb0_1_12 yb0_0_12 lb0_12 kc9 kc8_12 krV3_12 kw_12 s13
  clear hb10
  have kr10 : Below w10.heap.size w10 w10 := bl_refl _
  have v10H := Lib.hid v10
  clear v10
  go_wp2_with fail
  refine (eqSystem_r _ _ _ _ _ _ _ _ _ _ _ _ (machR Q S ms fl h s).1 _ (OwnSy.rd (OwnSy.below v10H.out bk_)) (OwnSy.rd (OwnSy.below vV6_0H.out bk_)) hRl.out).mono ?_
  rintro e w11 ⟨rfl, hb11⟩
  have s14 : w10.heap.size + 1 ≤ w11.heap.size := by have := hb11.size; (try simp at this); omega
  have s14H := Lib.hid s14
  have kw_14 : Below w.heap.size w w11 := bl_tr bk_ hb11
  have krV3_14 : Below w7.heap.size w7 w11 := bl_tr bk_ hb11
  have kc8_14 : Below w8.heap.size w8 w11 := bl_tr bk_ hb11
  have kc9_14 : Below w9.heap.size w9 w11 := bl_tr bk_ hb11
  have kr10_14 : Below w10.heap.size w10 w11 := bl_tr bk_ hb11
  have lb0_14 : w.heap.size < w11.heap.size := Nat.lt_of_lt_of_le (by go_simp) hb11.size
  have yb0_0_14 : w11.cell? ⟨w.heap.size, 0, none⟩ = some (.int .i64 Q) := (hb11.cell (p := ⟨w.heap.size, 0, none⟩) (by go_simp)).trans (by go_simp)
  have yb0_1_14 : w11.cell? ⟨w.heap.size, 1, none⟩ = some (.int .i64 S) := (hb11.cell (p := ⟨w.heap.size, 1, none⟩) (by go_simp)).trans (by go_simp)
  have yb0_2_14 : w11.cell? ⟨w.heap.size, 2, none⟩ = some (.slice A q ca) := (hb11.cell (p := ⟨w.heap.size, 2, none⟩) (by go_simp)).trans (by go_simp)
  have lb1_14 : w.heap.size + 1 < w11.heap.size := Nat.lt_of_lt_of_le (by go_simp) hb11.size
  have yb1_0_14 : w11.cell? ⟨w.heap.size + 1, 0, none⟩ = some (.slice F nf cf) := (hb11.cell (p := ⟨w.heap.size + 1, 0, none⟩) (by go_simp)).trans (by go_simp)
  have yb1_1_14 : w11.cell? ⟨w.heap.size + 1, 1, none⟩ = some (.int .i64 h) := (hb11.cell (p := ⟨w.heap.size + 1, 1, none⟩) (by go_simp)).trans (by go_simp)
  have yb1_2_14 : w11.cell? ⟨w.heap.size + 1, 2, none⟩ = some (.int .i64 s) := (hb11.cell (p := ⟨w.heap.size + 1, 2, none⟩) (by go_simp)).trans (by go_simp)
  have lb2_14 : bF3 < w11.heap.size := Nat.lt_of_lt_of_le (by go_simp) hb11.size
  have yb2_0_14 : w11.cell? ⟨bF3, 0, none⟩ = some (.slice VA6 (machR Q S ms fl h s).1.gs.length ka6) := (hb11.cell (p := ⟨bF3, 0, none⟩) (by go_simp)).trans (by go_simp)
  have yb2_1_14 : w11.cell? ⟨bF3, 1, none⟩ = some (.slice VB6 (machR Q S ms fl h s).1.ts.length kb6) := (hb11.cell (p := ⟨bF3, 1, none⟩) (by go_simp)).trans (by go_simp)
  have yb2_2_14 : w11.cell? ⟨bF3, 2, none⟩ = some (.slice VC6 (machR Q S ms fl h s).1.xs.length kd6) := (hb11.cell (p := ⟨bF3, 2, none⟩) (by go_simp)).trans (by go_simp)
  have yb2_3_14 : w11.cell? ⟨bF3, 3, none⟩ = some (.int .i64 (machR Q S ms fl h s).1.t) := (hb11.cell (p := ⟨bF3, 3, none⟩) (by go_simp)).trans (by go_simp)
  have lb3_14 : w8.heap.size < w11.heap.size := Nat.lt_of_lt_of_le (by go_simp) hb11.size
  have yb3_0_14 : w11.cell? ⟨w8.heap.size, 0, none⟩ = some (.int .i64 Q) := (hb11.cell (p := ⟨w8.heap.size, 0, none⟩) (by go_simp)).trans (by go_simp)
  have yb3_1_14 : w11.cell? ⟨w8.heap.size, 1, none⟩ = some (.int .i64 S) := (hb11.cell (p := ⟨w8.heap.size, 1, none⟩) (by go_simp)).trans (by go_simp)
  have yb3_2_14 : w11.cell? ⟨w8.heap.size, 2, none⟩ = some (.slice A8 q q) := (hb11.cell (p := ⟨w8.heap.size, 2, none⟩) (by go_simp)).trans (by go_simp)
  have lb4_14 : w9.heap.size < w11.heap.size := Nat.lt_of_lt_of_le (by go_simp) hb11.size
  have yb4_0_14 : w11.cell? ⟨w9.heap.size, 0, none⟩ = some (.slice F9 nf nf) := (hb11.cell (p := ⟨w9.heap.size, 0, none⟩) (by go_simp)).trans (by go_simp)
  have yb4_1_14 : w11.cell? ⟨w9.heap.size, 1, none⟩ = some (.int .i64 h) := (hb11.cell (p := ⟨w9.heap.size, 1, none⟩) (by go_simp)).trans (by go_simp)
  have yb4_2_14 : w11.cell? ⟨w9.heap.size, 2, none⟩ = some (.int .i64 s) := (hb11.cell (p := ⟨w9.heap.size, 2, none⟩) (by go_simp)).trans (by go_simp)
  have lb5_14 : w10.heap.size < w11.heap.size := Nat.lt_of_lt_of_le (by go_simp) hb11.size
  have yb5_0_14 : w11.cell? ⟨w10.heap.size, 0, none⟩ = some (.slice VA10 (machR Q S ms fl h s).1.gs.length ka10) := (hb11.cell (p := ⟨w10.heap.size, 0, none⟩) (by go_simp)).trans (by go_simp)
  have yb5_1_14 : w11.cell? ⟨w10.heap.size, 1, none⟩ = some (.slice VB10 (machR Q S ms fl h s).1.ts.length kb10) := (hb11.cell (p := ⟨w10.heap.size, 1, none⟩) (by go_simp)).trans (by go_simp)
  have yb5_2_14 : w11.cell? ⟨w10.heap.size, 2, none⟩ = some (.slice VC10 (machR Q S ms fl h s).1.xs.length kd10) := (hb11.cell (p := ⟨w10.heap.size, 2, none⟩) (by go_simp)).trans (by go_simp)
  have yb5_3_14 : w11.cell? ⟨w10.heap.size, 3, none⟩ = some (.int .i64 (machR Q S ms fl h s).1.t) := (hb11.cell (p := ⟨w10.heap.size, 3, none⟩) (by go_simp)).trans (by go_simp)
  clear yb4_2_13 yb4_1_13 yb4_0_13 lb4_13 yb3_2_13 yb3_1_13 yb3_0_13 lb3_13 yb2_3_13 yb2_2_13 yb2_1_13 yb2_0_13 lb2_13 yb1_2_13 yb1_1_13 yb1_0_13 lb1_13 yb0_2_13 yb0_1_13 yb0_0_13 lb0_13 kr10 kc9_13 kc8_13 krV3_13 kw_13 s14
  clear hb11
  go_wp2_with fail
  refine wp_region_ord [(0, .q), (1, .q), (2, .g), (3, .g), (4, .q)] (by kernel_rfl) (by kernel_rfl) ?_
  simp only [pick, List.filterMap_cons, List.filterMap_nil, List.getElem?_toArray, List.getElem?_cons_zero, List.getElem?_cons_succ, Option.map_some]
  repeat (first | ((with_reducible refine wpD_p (fun K hK => ?_)); go_simp; refine hK _ ?_; clear hK K) | ((with_reducible refine wpD_q (fun K hK => ?_)); go_simp; (first | refine hK _ ?_ | (go_bits; refine hK _ ?_) | (go_bits; go_simp; refine hK _ ?_)); clear hK K))
  with_reducible refine wpD_g (fun K hK => ?_)
  go_simp
  refine (toMachine_any _ _ _ _ _ ms _ (hA.below RMv.stable bk_) (by omega)).mono ?_
  rintro e w12 ⟨A12, rfl, o12, hb12⟩
  refine ⟨_, rfl, hb12, hK _ _ ?_⟩
  clear hK K
  have s15 : w11.heap.size ≤ w12.heap.size := by have := hb12.size; (try simp at this); omega
  have s15H := Lib.hid s15
  have kw_15 : Below w.heap.size w w12 := bl_tr bk_ hb12
  have krV3_15 : Below w7.heap.size w7 w12 := bl_tr bk_ hb12
  have kc8_15 : Below w8.heap.size w8 w12 := bl_tr bk_ hb12
  have kc9_15 : Below w9.heap.size w9 w12 := bl_tr bk_ hb12
  have kr10_15 : Below w10.heap.size w10 w12 := bl_tr bk_ hb12
  have lb0_15 : w.heap.size < w12.heap.size := Nat.lt_of_lt_of_le (by go_simp) hb12.size
  have yb0_0_15 : w12.cell? ⟨w.heap.size, 0, none⟩ = some (.int .i64 Q) := (hb12.cell (p := ⟨w.heap.size, 0, none⟩) (by go_simp)).trans (by go_simp)
  have yb0_1_15 : w12.cell? ⟨w.heap.size, 1, none⟩ = some (.int .i64 S) := (hb12.cell (p := ⟨w.heap.size, 1, none⟩) (by go_simp)).trans (by go_simp)
  have yb0_2_15 : w12.cell? ⟨w.heap.size, 2, none⟩ = some (.slice A q ca) := (hb12.cell (p := ⟨w.heap.size, 2, none⟩) (by go_simp)).trans (by go_simp)
  have lb1_15 : w.heap.size + 1 < w12.heap.size := Nat.lt_of_lt_of_le (by go_simp) hb12.size
  have yb1_0_15 : w12.cell? ⟨w.heap.size + 1, 0, none⟩ = some (.slice F nf cf) := (hb12.cell (p := ⟨w.heap.size + 1, 0, none⟩) (by go_simp)).trans (by go_simp)
  have yb1_1_15 : w12.cell? ⟨w.heap.size + 1, 1, none⟩ = some (.int .i64 h) := (hb12.cell (p := ⟨w.heap.size + 1, 1, none⟩) (by go_simp)).trans (by go_simp)
  have yb1_2_15 : w12.cell? ⟨w.heap.size + 1, 2, none⟩ = some (.int .i64 s) := (hb12.cell (p := ⟨w.heap.size + 1, 2, none⟩) (by go_simp)).trans (by go_simp)
  have lb2_15 : bF3 < w12.heap.size := Nat.lt_of_lt_of_le (by go_simp) hb12.size
  have yb2_0_15 : w12.cell? ⟨bF3, 0, none⟩ = some (.slice VA6 (machR Q S ms fl h s).1.gs.length ka6) := (hb12.cell (p := ⟨bF3, 0, none⟩) (by go_simp)).trans (by go_simp)
  have yb2_1_15 : w12.cell? ⟨bF3, 1, none⟩ = some (.slice VB6 (machR Q S ms fl h s).1.ts.length kb6) := (hb12.cell (p := ⟨bF3, 1, none⟩) (by go_simp)).trans (by go_simp)
  have yb2_2_15 : w12.cell? ⟨bF3, 2, none⟩ = some (.slice VC6 (machR Q S ms fl h s).1.xs.length kd6) := (hb12.cell (p := ⟨bF3, 2, none⟩) (by go_simp)).trans (by go_simp)
  have yb2_3_15 : w12.cell? ⟨bF3, 3, none⟩ = some (.int .i64 (machR Q S ms fl h s).1.t) := (hb12.cell (p := ⟨bF3, 3, none⟩) (by go_simp)).trans (by go_simp)
  have lb3_15 : w8.heap.size < w12.heap.size := Nat.lt_of_lt_of_le (by go_simp) hb12.size
  have yb3_0_15 : w12.cell? ⟨w8.heap.size, 0, none⟩ = some (.int .i64 Q) := (hb12.cell (p := ⟨w8.heap.size, 0, none⟩) (by go_simp)).trans (by go_simp)
  have yb3_1_15 : w12.cell? ⟨w8.heap.size, 1, none⟩ = some (.int .i64 S) := (hb12.cell (p := ⟨w8.heap.size, 1, none⟩) (by go_simp)).trans (by go_simp)
  have yb3_2_15 : w12.cell? ⟨w8.heap.size, 2, none⟩ = some (.slice A8 q q) := (hb12.cell (p := ⟨w8.heap.size, 2, none⟩) (by go_simp)).trans (by go_simp)
  have lb4_15 : w9.heap.size < w12.heap.size := Nat.lt_of_lt_of_le (by go_simp) hb12.size
  have yb4_0_15 : w12.cell? ⟨w9.heap.size, 0, none⟩ = some (.slice F9 nf nf) := (hb12.cell (p := ⟨w9.heap.size, 0, none⟩) (by go_simp)).trans (by go_simp)
  have yb4_1_15 : w12.cell? ⟨w9.heap.size, 1, none⟩ = some (.int .i64 h) := (hb12.cell (p := ⟨w9.heap.size, 1, none⟩) (by go_simp)).trans (by go_simp)
  have yb4_2_15 : w12.cell? ⟨w9.heap.size, 2, none⟩ = some (.int .i64 s) := (hb12.cell (p := ⟨w9.heap.size, 2, none⟩) (by go_simp)).trans (by go_simp)
  have lb5_15 : w10.heap.size < w12.heap.size := Nat.lt_of_lt_of_le (by go_simp) hb12.size
  have yb5_0_15 : w12.cell? ⟨w10.heap.size, 0, none⟩ = some (.slice VA10 (machR Q S ms fl h s).1.gs.length ka10) := (hb12.cell (p := ⟨w10.heap.size, 0, none⟩) (by go_simp)).trans (by go_simp)
  have yb5_1_15 : w12.cell? ⟨w10.heap.size, 1, none⟩ = some (.slice VB10 (machR Q S ms fl h s).1.ts.length kb10) := (hb12.cell (p := ⟨w10.heap.size, 1, none⟩) (by go_simp)).trans (by go_simp)
  have yb5_2_15 : w12.cell? ⟨w10.heap.size, 2, none⟩ = some (.slice VC10 (machR Q S ms fl h s).1.xs.length kd10) := (hb12.cell (p := ⟨w10.heap.size, 2, none⟩) (by go_simp)).trans (by go_simp)
  have yb5_3_15 : w12.cell? ⟨w10.heap.size, 3, none⟩ = some (.int .i64 (machR Q S ms fl h s).1.t) := (hb12.cell (p := ⟨w10.heap.size, 3, none⟩) (by go_simp)).trans (by go_simp)
  clear yb5_3_14 yb5_2_14 yb5_1_14 yb5_0_14 lb5_14 yb4_2_14 yb4_1_14 yb4_0_14 lb4_14 yb3_2_14 yb3_1_14 yb3_0_14 lb3_14 yb2_3_14 yb2_2_14 yb2_1_14 yb2_0_14 lb2_14 yb1_2_14 yb1_1_14 yb1_0_14 lb1_14 yb0_2_14 yb0_1_14 yb0_0_14 lb0_14 kr10_14 kc9_14 kc8_14 krV3_14 kw_14 s15
  clear hb12
  have kc12 : Below w12.heap.size w12 w12 := bl_refl _
  have o12H := Lib.hid o12
  clear o12
  with_reducible refine wpD_g (fun K hK => ?_)
  go_simp
  refine (eqMachine_same _ _ _ _ _ _ _ ms _ (o8H.out.rd.below RMv.stable bk_) (o12H.out.rd.below RMv.stable bk_) (by omega)).mono ?_
  rintro e w13 ⟨rfl, hb13⟩
  refine ⟨_, rfl, hb13, hK _ _ ?_⟩
  clear hK K
  have s16 : w12.heap.size ≤ w13.heap.size := by have := hb13.size; (try simp at this); omega
  have s16H := Lib.hid s16
  have kw_16 : Below w.heap.size w w13 := bl_tr bk_ hb13
  have krV3_16 : Below w7.heap.size w7 w13 := bl_tr bk_ hb13
  have kc8_16 : Below w8.heap.size w8 w13 := bl_tr bk_ hb13
  have kc9_16 : Below w9.heap.size w9 w13 := bl_tr bk_ hb13
  have kr10_16 : Below w10.heap.size w10 w13 := bl_tr bk_ hb13
  have kc12_16 : Below w12.heap.size w12 w13 := bl_tr bk_ hb13
  have lb0_16 : w.heap.size < w13.heap.size := Nat.lt_of_lt_of_le (by go_simp) hb13.size
  have yb0_0_16 : w13.cell? ⟨w.heap.size, 0, none⟩ = some (.int .i64 Q) := (hb13.cell (p := ⟨w.heap.size, 0, none⟩) (by go_simp)).trans (by go_simp)
  have yb0_1_16 : w13.cell? ⟨w.heap.size, 1, none⟩ = some (.int .i64 S) := (hb13.cell (p := ⟨w.heap.size, 1, none⟩) (by go_simp)).trans (by go_simp)
  have yb0_2_16 : w13.cell? ⟨w.heap.size, 2, none⟩ = some (.slice A q ca) := (hb13.cell (p := ⟨w.heap.size, 2, none⟩) (by go_simp)).trans (by go_simp)
  have lb1_16 : w.heap.size + 1 < w13.heap.size := Nat.lt_of_lt_of_le (by go_simp) hb13.size
  have yb1_0_16 : w13.cell? ⟨w.heap.size + 1, 0, none⟩ = some (.slice F nf cf) := (hb13.cell (p := ⟨w.heap.size + 1, 0, none⟩) (by go_simp)).trans (by go_simp)
  have yb1_1_16 : w13.cell? ⟨w.heap.size + 1, 1, none⟩ = some (.int .i64 h) := (hb13.cell (p := ⟨w.heap.size + 1, 1, none⟩) (by go_simp)).trans (by go_simp)
  have yb1_2_16 : w13.cell? ⟨w.heap.size + 1, 2, none⟩ = some (.int .i64 s) := (hb13.cell (p := ⟨w.heap.size + 1, 2, none⟩) (by go_simp)).trans (by go_simp)
  have lb2_16 : bF3 < w13.heap.size := Nat.lt_of_lt_of_le (by go_simp) hb13.size
  have yb2_0_16 : w13.cell? ⟨bF3, 0, none⟩ = some (.slice VA6 (machR Q S ms fl h s).1.gs.length ka6) := (hb13.cell (p := ⟨bF3, 0, none⟩) (by go_simp)).trans (by go_simp)
  have yb2_1_16 : w13.cell? ⟨bF3, 1, none⟩ = some (.slice VB6 (machR Q S ms fl h s).1.ts.length kb6) := (hb13.cell (p := ⟨bF3, 1, none⟩) (by go_simp)).trans (by go_simp)
  have yb2_2_16 : w13.cell? ⟨bF3, 2, none⟩ = some (.slice VC6 (machR Q S ms fl h s).1.xs.length kd6) := (hb13.cell (p := ⟨bF3, 2, none⟩) (by go_simp)).trans (by go_simp)
  have yb2_3_16 : w13.cell? ⟨bF3, 3, none⟩ = some (.int .i64 (machR Q S ms fl h s).1.t) := (hb13.cell (p := ⟨bF3, 3, none⟩) (by go_simp)).trans (by go_simp)
  have lb3_16 : w8.heap.size < w13.heap.size := Nat.lt_of_lt_of_le (by go_simp) hb13.size
  have yb3_0_16 : w13.cell? ⟨w8.heap.size, 0, none⟩ = some (.int .i64 Q) := (hb13.cell (p := ⟨w8.heap.size, 0, none⟩) (by go_simp)).trans (by go_simp)
  have yb3_1_16 : w13.cell? ⟨w8.heap.size, 1, none⟩ = some (.int .i64 S) := (hb13.cell (p := ⟨w8.heap.size, 1, none⟩) (by go_simp)).trans (by go_simp)
  have yb3_2_16 : w13.cell? ⟨w8.heap.size, 2, none⟩ = some (.slice A8 q q) := (hb13.cell (p := ⟨w8.heap.size, 2, none⟩) (by go_simp)).trans (by go_simp)
  have lb4_16 : w9.heap.size < w13.heap.size := Nat.lt_of_lt_of_le (by go_simp) hb13.size
  have yb4_0_16 : w13.cell? ⟨w9.heap.size, 0, none⟩ = some (.slice F9 nf nf) := (hb13.cell (p := ⟨w9.heap.size, 0, none⟩) (by go_simp)).trans (by go_simp)
  have yb4_1_16 : w13.cell? ⟨w9.heap.size, 1, none⟩ = some (.int .i64 h) := (hb13.cell (p := ⟨w9.heap.size, 1, none⟩) (by go_simp)).trans (by go_simp)
  have yb4_2_16 : w13.cell? ⟨w9.heap.size, 2, none⟩ = some (.int .i64 s) := (hb13.cell (p := ⟨w9.heap.size, 2, none⟩) (by go_simp)).trans (by go_simp)
  have lb5_16 : w10.heap.size < w13.heap.size := Nat.lt_of_lt_of_le (by go_simp) hb13.size
  have yb5_0_16 : w13.cell? ⟨w10.heap.size, 0, none⟩ = some (.slice VA10 (machR Q S ms fl h s).1.gs.length ka10) := (hb13.cell (p := ⟨w10.heap.size, 0, none⟩) (by go_simp)).trans (by go_simp)
  have yb5_1_16 : w13.cell? ⟨w10.heap.size, 1, none⟩ = some (.slice VB10 (machR Q S ms fl h s).1.ts.length kb10) := (hb13.cell (p := ⟨w10.heap.size, 1, none⟩) (by go_simp)).trans (by go_simp)
  have yb5_2_16 : w13.cell? ⟨w10.heap.size, 2, none⟩ = some (.slice VC10 (machR Q S ms fl h s).1.xs.length kd10) := (hb13.cell (p := ⟨w10.heap.size, 2, none⟩) (by go_simp)).trans (by go_simp)
  have yb5_3_16 : w13.cell? ⟨w10.heap.size, 3, none⟩ = some (.int .i64 (machR Q S ms fl h s).1.t) := (hb13.cell (p := ⟨w10.heap.size, 3, none⟩) (by go_simp)).trans (by go_simp)
  clear yb5_3_15 yb5_2_15 yb5_1_15 yb5_0_15 lb5_15 yb4_2_15 yb4_1_15 yb4_0_15 lb4_15 yb3_2_15 yb3_1_15 yb3_0_15 lb3_15 yb2_3_15 yb2_2_15 yb2_1_15 yb2_0_15 lb2_15 yb1_2_15 yb1_1_15 yb1_0_15 lb1_15 yb0_2_15 yb0_1_15 yb0_0_15 lb0_15 kc12 kr10_15 kc9_15 kc8_15 krV3_15 kw_15 s16
  clear hb13
  repeat (first | ((with_reducible refine wpD_p (fun K hK => ?_)); go_simp; refine hK _ ?_; clear hK K) | ((with_reducible refine wpD_q (fun K hK => ?_)); go_simp; (first | refine hK _ ?_ | (go_bits; refine hK _ ?_) | (go_bits; go_simp; refine hK _ ?_)); clear hK K))
  with_reducible refine wpD_nil ?_
  go_wp2_with fail
  refine wp_region_ord [(0, .q), (1, .q), (2, .g), (3, .g), (4, .q)] (by kernel_rfl) (by kernel_rfl) ?_
  simp only [pick, List.filterMap_cons, List.filterMap_nil, List.getElem?_toArray, List.getElem?_cons_zero, List.getElem?_cons_succ, Option.map_some]
  repeat (first | ((with_reducible refine wpD_p (fun K hK => ?_)); go_simp; refine hK _ ?_; clear hK K) | ((with_reducible refine wpD_q (fun K hK => ?_)); go_simp; (first | refine hK _ ?_ | (go_bits; refine hK _ ?_) | (go_bits; go_simp; refine hK _ ?_)); clear hK K))
  with_reducible refine wpD_g (fun K hK => ?_)
  go_simp
  refine (toConfig_any _ _ _ _ _ fl _ (hF.below RInt.stable bk_) (by omega)).mono ?_
  rintro e w14 ⟨F14, rfl, o14, hb14⟩
  refine ⟨_, rfl, hb14, hK _ _ ?_⟩
  clear hK K
  have s17 : w13.heap.size ≤ w14.heap.size := by have := hb14.size; (try simp at this); omega
  have s17H := Lib.hid s17
  have kw_17 : Below w.heap.size w w14 := bl_tr bk_ hb14
  have krV3_17 : Below w7.heap.size w7 w14 := bl_tr bk_ hb14
  have kc8_17 : Below w8.heap.size w8 w14 := bl_tr bk_ hb14
  have kc9_17 : Below w9.heap.size w9 w14 := bl_tr bk_ hb14
  have kr10_17 : Below w10.heap.size w10 w14 := bl_tr bk_ hb14
  have kc12_17 : Below w12.heap.size w12 w14 := bl_tr bk_ hb14
  have lb0_17 : w.heap.size < w14.heap.size := Nat.lt_of_lt_of_le (by go_simp) hb14.size
  have yb0_0_17 : w14.cell? ⟨w.heap.size, 0, none⟩ = some (.int .i64 Q) := (hb14.cell (p := ⟨w.heap.size, 0, none⟩) (by go_simp)).trans (by go_simp)
  have yb0_1_17 : w14.cell? ⟨w.heap.size, 1, none⟩ = some (.int .i64 S) := (hb14.cell (p := ⟨w.heap.size, 1, none⟩) (by go_simp)).trans (by go_simp)
  have yb0_2_17 : w14.cell? ⟨w.heap.size, 2, none⟩ = some (.slice A q ca) := (hb14.cell (p := ⟨w.heap.size, 2, none⟩) (by go_simp)).trans (by go_simp)
  have lb1_17 : w.heap.size + 1 < w14.heap.size := Nat.lt_of_lt_of_le (by go_simp) hb14.size
  have yb1_0_17 : w14.cell? ⟨w.heap.size + 1, 0, none⟩ = some (.slice F nf cf) := (hb14.cell (p := ⟨w.heap.size + 1, 0, none⟩) (by go_simp)).trans (by go_simp)
  have yb1_1_17 : w14.cell? ⟨w.heap.size + 1, 1, none⟩ = some (.int .i64 h) := (hb14.cell (p := ⟨w.heap.size + 1, 1, none⟩) (by go_simp)).trans (by go_simp)
  have yb1_2_17 : w14.cell? ⟨w.heap.size + 1, 2, none⟩ = some (.int .i64 s) := (hb14.cell (p := ⟨w.heap.size + 1, 2, none⟩) (by go_simp)).trans (by go_simp)
  have lb2_17 : bF3 < w14.heap.size := Nat.lt_of_lt_of_le (by go_simp) hb14.size
  have yb2_0_17 : w14.cell? ⟨bF3, 0, none⟩ = some (.slice VA6 (machR Q S ms fl h s).1.gs.length ka6) := (hb14.cell (p := ⟨bF3, 0, none⟩) (by go_simp)).trans (by go_simp)
  have yb2_1_17 : w14.cell? ⟨bF3, 1, none⟩ = some (.slice VB6 (machR Q S ms fl h s).1.ts.length kb6) := (hb14.cell (p := ⟨bF3, 1, none⟩) (by go_simp)).trans (by go_simp)
  have yb2_2_17 : w14.cell? ⟨bF3, 2, none⟩ = some (.slice VC6 (machR Q S ms fl h s).1.xs.length kd6) := (hb14.cell (p := ⟨bF3, 2, none⟩) (by go_simp)).trans (by go_simp)
  have yb2_3_17 : w14.cell? ⟨bF3, 3, none⟩ = some (.int .i64 (machR Q S ms fl h s).1.t) := (hb14.cell (p := ⟨bF3, 3, none⟩) (by go_simp)).trans (by go_simp)
  have lb3_17 : w8.heap.size < w14.heap.size := Nat.lt_of_lt_of_le (by go_simp) hb14.size
  have yb3_0_17 : w14.cell? ⟨w8.heap.size, 0, none⟩ = some (.int .i64 Q) := (hb14.cell (p := ⟨w8.heap.size, 0, none⟩) (by go_simp)).trans (by go_simp)
  have yb3_1_17 : w14.cell? ⟨w8.heap.size, 1, none⟩ = some (.int .i64 S) := (hb14.cell (p := ⟨w8.heap.size, 1, none⟩) (by go_simp)).trans (by go_simp)
  have yb3_2_17 : w14.cell? ⟨w8.heap.size, 2, none⟩ = some (.slice A8 q q) := (hb14.cell (p := ⟨w8.heap.size, 2, none⟩) (by go_simp)).trans (by go_simp)
  have lb4_17 : w9.heap.size < w14.heap.size := Nat.lt_of_lt_of_le (by go_simp) hb14.size
  have yb4_0_17 : w14.cell? ⟨w9.heap.size, 0, none⟩ = some (.slice F9 nf nf) := (hb14.cell (p := ⟨w9.heap.size, 0, none⟩) (by go_simp)).trans (by go_simp)
  have yb4_1_17 : w14.cell? ⟨w9.heap.size, 1, none⟩ = some (.int .i64 h) := (hb14.cell (p := ⟨w9.heap.size, 1, none⟩) (by go_simp)).trans (by go_simp)
  have yb4_2_17 : w14.cell? ⟨w9.heap.size, 2, none⟩ = some (.int .i64 s) := (hb14.cell (p := ⟨w9.heap.size, 2, none⟩) (by go_simp)).trans (by go_simp)
  have lb5_17 : w10.heap.size < w14.heap.size := Nat.lt_of_lt_of_le (by go_simp) hb14.size
  have yb5_0_17 : w14.cell? ⟨w10.heap.size, 0, none⟩ = some (.slice VA10 (machR Q S ms fl h s).1.gs.length ka10) := (hb14.cell (p := ⟨w10.heap.size, 0, none⟩) (by go_simp)).trans (by go_simp)
  have yb5_1_17 : w14.cell? ⟨w10.heap.size, 1, none⟩ = some (.slice VB10 (machR Q S ms fl h s).1.ts.length kb10) := (hb14.cell (p := ⟨w10.heap.size, 1, none⟩) (by go_simp)).trans (by go_simp)
  have yb5_2_17 : w14.cell? ⟨w10.heap.size, 2, none⟩ = some (.slice VC10 (machR Q S ms fl h s).1.xs.length kd10) := (hb14.cell (p := ⟨w10.heap.size, 2, none⟩) (by go_simp)).trans (by go_simp)
  have yb5_3_17 : w14.cell? ⟨w10.heap.size, 3, none⟩ = some (.int .i64 (machR Q S ms fl h s).1.t) := (hb14.cell (p := ⟨w10.heap.size, 3, none⟩) (by go_simp)).trans (by go_simp)
  clear yb5_3_16 yb5_2_16 yb5_1_16 yb5_0_16 lb5_16 yb4_2_16 yb4_1_16 yb4_0_16 lb4_16 yb3_2_16 yb3_1_16 yb3_0_16 lb3_16 yb2_3_16 yb2_2_16 yb2_1_16 yb2_0_16 lb2_16 yb1_2_16 yb1_1_16 yb1_0_16 lb1_16 yb0_2_16 yb0_1_16 yb0_0_16 lb0_16 kc12_16 kr10_16 kc9_16 kc8_16 krV3_16 kw_16 s17
  clear hb14
  have kc14 : Below w14.heap.size w14 w14 := bl_refl _
  have o14H := Lib.hid o14
  clear o14
  with_reducible refine wpD_g (fun K hK => ?_)
  go_simp
  refine (eqConfig_same _ _ _ _ _ _ _ fl _ (o9H.out.rd.below RInt.stable bk_) (o14H.out.rd.below RInt.stable bk_) (by omega)).mono ?_
  rintro e w15 ⟨rfl, hb15⟩
  refine ⟨_, rfl, hb15, hK _ _ ?_⟩
  clear hK K
  have s18 : w14.heap.size ≤ w15.heap.size := by have := hb15.size; (try simp at this); omega
  have s18H := Lib.hid s18
  have kw_18 : Below w.heap.size w w15 := bl_tr bk_ hb15
  have krV3_18 : Below w7.heap.size w7 w15 := bl_tr bk_ hb15
  have kc8_18 : Below w8.heap.size w8 w15 := bl_tr bk_ hb15
  have kc9_18 : Below w9.heap.size w9 w15 := bl_tr bk_ hb15
  have kr10_18 : Below w10.heap.size w10 w15 := bl_tr bk_ hb15
  have kc12_18 : Below w12.heap.size w12 w15 := bl_tr bk_ hb15
  have kc14_18 : Below w14.heap.size w14 w15 := bl_tr bk_ hb15
  have lb0_18 : w.heap.size < w15.heap.size := Nat.lt_of_lt_of_le (by go_simp) hb15.size
  have yb0_0_18 : w15.cell? ⟨w.heap.size, 0, none⟩ = some (.int .i64 Q) := (hb15.cell (p := ⟨w.heap.size, 0, none⟩) (by go_simp)).trans (by go_simp)
  have yb0_1_18 : w15.cell? ⟨w.heap.size, 1, none⟩ = some (.int .i64 S) := (hb15.cell (p := ⟨w.heap.size, 1, none⟩) (by go_simp)).trans (by go_simp)
  have yb0_2_18 : w15.cell? ⟨w.heap.size, 2, none⟩ = some (.slice A q ca) := (hb15.cell (p := ⟨w.heap.size, 2, none⟩) (by go_simp)).trans (by go_simp)
  have lb1_18 : w.heap.size + 1 < w15.heap.size := Nat.lt_of_lt_of_le (by go_simp) hb15.size
  have yb1_0_18 : w15.cell? ⟨w.heap.size + 1, 0, none⟩ = some (.slice F nf cf) := (hb15.cell (p := ⟨w.heap.size + 1, 0, none⟩) (by go_simp)).trans (by go_simp)
  have yb1_1_18 : w15.cell? ⟨w.heap.size + 1, 1, none⟩ = some (.int .i64 h) := (hb15.cell (p := ⟨w.heap.size + 1, 1, none⟩) (by go_simp)).trans (by go_simp)
  have yb1_2_18 : w15.cell? ⟨w.heap.size + 1, 2, none⟩ = some (.int .i64 s) := (hb15.cell (p := ⟨w.heap.size + 1, 2, none⟩) (by go_simp)).trans (by go_simp)
  have lb2_18 : bF3 < w15.heap.size := Nat.lt_of_lt_of_le (by go_simp) hb15.size
  have yb2_0_18 : w15.cell? ⟨bF3, 0, none⟩ = some (.slice VA6 (machR Q S ms fl h s).1.gs.length ka6) := (hb15.cell (p := ⟨bF3, 0, none⟩) (by go_simp)).trans (by go_simp)
  have yb2_1_18 : w15.cell? ⟨bF3, 1, none⟩ = some (.slice VB6 (machR Q S ms fl h s).1.ts.length kb6) := (hb15.cell (p := ⟨bF3, 1, none⟩) (by go_simp)).trans (by go_simp)
  have yb2_2_18 : w15.cell? ⟨bF3, 2, none⟩ = some (.slice VC6 (machR Q S ms fl h s).1.xs.length kd6) := (hb15.cell (p := ⟨bF3, 2, none⟩) (by go_simp)).trans (by go_simp)
  have yb2_3_18 : w15.cell? ⟨bF3, 3, none⟩ = some (.int .i64 (machR Q S ms fl h s).1.t) := (hb15.cell (p := ⟨bF3, 3, none⟩) (by go_simp)).trans (by go_simp)
  have lb3_18 : w8.heap.size < w15.heap.size := Nat.lt_of_lt_of_le (by go_simp) hb15.size
  have yb3_0_18 : w15.cell? ⟨w8.heap.size, 0, none⟩ = some (.int .i64 Q) := (hb15.cell (p := ⟨w8.heap.size, 0, none⟩) (by go_simp)).trans (by go_simp)
  have yb3_1_18 : w15.cell? ⟨w8.heap.size, 1, none⟩ = some (.int .i64 S) := (hb15.cell (p := ⟨w8.heap.size, 1, none⟩) (by go_simp)).trans (by go_simp)
  have yb3_2_18 : w15.cell? ⟨w8.heap.size, 2, none⟩ = some (.slice A8 q q) := (hb15.cell (p := ⟨w8.heap.size, 2, none⟩) (by go_simp)).trans (by go_simp)
  have lb4_18 : w9.heap.size < w15.heap.size := Nat.lt_of_lt_of_le (by go_simp) hb15.size
  have yb4_0_18 : w15.cell? ⟨w9.heap.size, 0, none⟩ = some (.slice F9 nf nf) := (hb15.cell (p := ⟨w9.heap.size, 0, none⟩) (by go_simp)).trans (by go_simp)
  have yb4_1_18 : w15.cell? ⟨w9.heap.size, 1, none⟩ = some (.int .i64 h) := (hb15.cell (p := ⟨w9.heap.size, 1, none⟩) (by go_simp)).trans (by go_simp)
  have yb4_2_18 : w15.cell? ⟨w9.heap.size, 2, none⟩ = some (.int .i64 s) := (hb15.cell (p := ⟨w9.heap.size, 2, none⟩) (by go_simp)).trans (by go_simp)
  have lb5_18 : w10.heap.size < w15.heap.size := Nat.lt_of_lt_of_le (by go_simp) hb15.size
  have yb5_0_18 : w15.cell? ⟨w10.heap.size, 0, none⟩ = some (.slice VA10 (machR Q S ms fl h s).1.gs.length ka10) := (hb15.cell (p := ⟨w10.heap.size, 0, none⟩) (by go_simp)).trans (by go_simp)
  have yb5_1_18 : w15.cell? ⟨w10.heap.size, 1, none⟩ = some (.slice VB10 (machR Q S ms fl h s).1.ts.length kb10) := (hb15.cell (p := ⟨w10.heap.size, 1, none⟩) (by go_simp)).trans (by go_simp)
  have yb5_2_18 : w15.cell? ⟨w10.heap.size, 2, none⟩ = some (.slice VC10 (machR Q S ms fl h s).1.xs.length kd10) := (hb15.cell (p := ⟨w10.heap.size, 2, none⟩) (by go_simp)).trans (by go_simp)
  have yb5_3_18 : w15.cell? ⟨w10.heap.size, 3, none⟩ = some (.int .i64 (machR Q S ms fl h s).1.t) := (hb15.cell (p := ⟨w10.heap.size, 3, none⟩) (by go_simp)).trans (by go_simp)
  clear yb5_3_17 yb5_2_17 yb5_1_17 yb5_0_17 lb5_17 yb4_2_17 yb4_1_17 yb4_0_17 lb4_17 yb3_2_17 yb3_1_17 yb3_0_17 lb3_17 yb2_3_17 yb2_2_17 yb2_1_17 yb2_0_17 lb2_17 yb1_2_17 yb1_1_17 yb1_0_17 lb1_17 yb0_2_17 yb0_1_17 yb0_0_17 lb0_17 kc14 kc12_17 kr10_17 kc9_17 kc8_17 krV3_17 kw_17 s18
  clear hb15
  repeat (first | ((with_reducible refine wpD_p (fun K hK => ?_)); go_simp; refine hK _ ?_; clear hK K) | ((with_reducible refine wpD_q (fun K hK => ?_)); go_simp; (first | refine hK _ ?_ | (go_bits; refine hK _ ?_) | (go_bits; go_simp; refine hK _ ?_)); clear hK K))
  with_reducible refine wpD_nil ?_
  go_wp2_with fail
  have sB0H := Lib.hid lb0_18
  have sB1H := Lib.hid lb1_18
  have sB2H := Lib.hid lb2_18
  have sB3H := Lib.hid lb3_18
  have sB4H := Lib.hid lb4_18
  have sB5H := Lib.hid lb5_18
  have MA8 := Lib.hid (((o8H.out.mk_).lo_ (lo' := (w7.heap.size)) om_).below kc8_18 (Nat.le_refl _))
  have MF9 := Lib.hid (((o9H.out.mk_).lo_ (lo' := (w8.heap.size + 1)) om_).below kc9_18 (Nat.le_refl _))
  have OG10a := Lib.hid (OwnSy.rebase (lo' := (w9.heap.size + 1)) (OwnSy.below v10H.out kr10_18) om_)
  refine (markMachine_any2 _ q _ 1 (w7.heap.size) w8.heap.size _ _ _ (MkRow.below MA8.out bk_ om_) om_ om_ (by omega)).mono ?_
  rintro e w16 ⟨r16, rfl, hr161, hr162, hm16⟩
  clear MA8
  have s19 : w15.heap.size ≤ w16.heap.size := by have := hm16.size; (try simp at this); omega
  have s19H := Lib.hid s19
  have kw_19 : Below w.heap.size w w16 := Below.trans bk_ (hm16.below.mono om_)
  have krV3_19 : Below w7.heap.size w7 w16 := Below.trans bk_ (hm16.below.mono om_)
  have lb0_19 : w.heap.size < w16.heap.size := Nat.lt_of_lt_of_le (by go_simp) hm16.size
  have yb0_0_19 : w16.cell? ⟨w.heap.size, 0, none⟩ = some (.int .i64 Q) := (hm16.below.cell (p := ⟨w.heap.size, 0, none⟩) om_).trans (by go_simp)
  have yb0_1_19 : w16.cell? ⟨w.heap.size, 1, none⟩ = some (.int .i64 S) := (hm16.below.cell (p := ⟨w.heap.size, 1, none⟩) om_).trans (by go_simp)
  have yb0_2_19 : w16.cell? ⟨w.heap.size, 2, none⟩ = some (.slice A q ca) := (hm16.below.cell (p := ⟨w.heap.size, 2, none⟩) om_).trans (by go_simp)
  have lb1_19 : w.heap.size + 1 < w16.heap.size := Nat.lt_of_lt_of_le (by go_simp) hm16.size
  have yb1_0_19 : w16.cell? ⟨w.heap.size + 1, 0, none⟩ = some (.slice F nf cf) := (hm16.below.cell (p := ⟨w.heap.size + 1, 0, none⟩) om_).trans (by go_simp)
  have yb1_1_19 : w16.cell? ⟨w.heap.size + 1, 1, none⟩ = some (.int .i64 h) := (hm16.below.cell (p := ⟨w.heap.size + 1, 1, none⟩) om_).trans (by go_simp)
  have yb1_2_19 : w16.cell? ⟨w.heap.size + 1, 2, none⟩ = some (.int .i64 s) := (hm16.below.cell (p := ⟨w.heap.size + 1, 2, none⟩) om_).trans (by go_simp)
  have lb2_19 : bF3 < w16.heap.size := Nat.lt_of_lt_of_le (by go_simp) hm16.size
  have yb2_0_19 : w16.cell? ⟨bF3, 0, none⟩ = some (.slice VA6 (machR Q S ms fl h s).1.gs.length ka6) := (hm16.below.cell (p := ⟨bF3, 0, none⟩) om_).trans (by go_simp)
  have yb2_1_19 : w16.cell? ⟨bF3, 1, none⟩ = some (.slice VB6 (machR Q S ms fl h s).1.ts.length kb6) := (hm16.below.cell (p := ⟨bF3, 1, none⟩) om_).trans (by go_simp)
  have yb2_2_19 : w16.cell? ⟨bF3, 2, none⟩ = some (.slice VC6 (machR Q S ms fl h s).1.xs.length kd6) := (hm16.below.cell (p := ⟨bF3, 2, none⟩) om_).trans (by go_simp)
  have yb2_3_19 : w16.cell? ⟨bF3, 3, none⟩ = some (.int .i64 (machR Q S ms fl h s).1.t) := (hm16.below.cell (p := ⟨bF3, 3, none⟩) om_).trans (by go_simp)
  have lb3_19 : w8.heap.size < w16.heap.size := Nat.lt_of_lt_of_le (by go_simp) hm16.size
  have yb3_0_19 : w16.cell? ⟨w8.heap.size, 0, none⟩ = some (.int .i64 Q) := (World.cell?_of_block (a := ⟨w8.heap.size, 0, none⟩) (hm16.keep (w8.heap.size) om_ (by go_simp))).trans (by go_simp)
  have yb3_1_19 : w16.cell? ⟨w8.heap.size, 1, none⟩ = some (.int .i64 S) := (World.cell?_of_block (a := ⟨w8.heap.size, 1, none⟩) (hm16.keep (w8.heap.size) om_ (by go_simp))).trans (by go_simp)
  have yb3_2_19 : w16.cell? ⟨w8.heap.size, 2, none⟩ = some (.slice A8 q q) := (World.cell?_of_block (a := ⟨w8.heap.size, 2, none⟩) (hm16.keep (w8.heap.size) om_ (by go_simp))).trans (by go_simp)
  have lb4_19 : w9.heap.size < w16.heap.size := Nat.lt_of_lt_of_le (by go_simp) hm16.size
  have yb4_0_19 : w16.cell? ⟨w9.heap.size, 0, none⟩ = some (.slice F9 nf nf) := (World.cell?_of_block (a := ⟨w9.heap.size, 0, none⟩) (hm16.keep (w9.heap.size) om_ (by go_simp))).trans (by go_simp)
  have yb4_1_19 : w16.cell? ⟨w9.heap.size, 1, none⟩ = some (.int .i64 h) := (World.cell?_of_block (a := ⟨w9.heap.size, 1, none⟩) (hm16.keep (w9.heap.size) om_ (by go_simp))).trans (by go_simp)
  have yb4_2_19 : w16.cell? ⟨w9.heap.size, 2, none⟩ = some (.int .i64 s) := (World.cell?_of_block (a := ⟨w9.heap.size, 2, none⟩) (hm16.keep (w9.heap.size) om_ (by go_simp))).trans (by go_simp)
  have lb5_19 : w10.heap.size < w16.heap.size := Nat.lt_of_lt_of_le (by go_simp) hm16.size
  have yb5_0_19 : w16.cell? ⟨w10.heap.size, 0, none⟩ = some (.slice VA10 (machR Q S ms fl h s).1.gs.length ka10) := (World.cell?_of_block (a := ⟨w10.heap.size, 0, none⟩) (hm16.keep (w10.heap.size) om_ (by go_simp))).trans (by go_simp)
  have yb5_1_19 : w16.cell? ⟨w10.heap.size, 1, none⟩ = some (.slice VB10 (machR Q S ms fl h s).1.ts.length kb10) := (World.cell?_of_block (a := ⟨w10.heap.size, 1, none⟩) (hm16.keep (w10.heap.size) om_ (by go_simp))).trans (by go_simp)
  have yb5_2_19 : w16.cell? ⟨w10.heap.size, 2, none⟩ = some (.slice VC10 (machR Q S ms fl h s).1.xs.length kd10) := (World.cell?_of_block (a := ⟨w10.heap.size, 2, none⟩) (hm16.keep (w10.heap.size) om_ (by go_simp))).trans (by go_simp)
  have yb5_3_19 : w16.cell? ⟨w10.heap.size, 3, none⟩ = some (.int .i64 (machR Q S ms fl h s).1.t) := (World.cell?_of_block (a := ⟨w10.heap.size, 3, none⟩) (hm16.keep (w10.heap.size) om_ (by go_simp))).trans (by go_simp)
  have MF9_19 := Lib.hid (MkRow.mk (MkRow.below (MF9.out) bk_ om_) hm16 om_ om_)
  have OG10a_19 := Lib.hid (OwnSy.mkd (OwnSy.below OG10a.out bk_) hm16 om_)
  clear OG10a MF9 yb5_3_18 yb5_2_18 yb5_1_18 yb5_0_18 lb5_18 yb4_2_18 yb4_1_18 yb4_0_18 lb4_18 yb3_2_18 yb3_1_18 yb3_0_18 lb3_18 yb2_3_18 yb2_2_18 yb2_1_18 yb2_0_18 lb2_18 yb1_2_18 yb1_1_18 yb1_0_18 lb1_18 yb0_2_18 yb0_1_18 yb0_0_18 lb0_18 kc14_18 kc12_18 kr10_18 kc9_18 kc8_18 krV3_18 kw_18 s19
  clear hm16
  go_wp2_with fail
  refine (markConfig_any2 _ nf _ r16 (w8.heap.size + 1) w9.heap.size _ _ _ (MkRow.below MF9_19.out bk_ om_) om_ om_ (by omega)).mono ?_
  rintro e w17 ⟨r17, rfl, hr171, hr172, hm17⟩
  clear MF9_19
  have s20 : w16.heap.size ≤ w17.heap.size := by have := hm17.size; (try simp at this); omega
  have s20H := Lib.hid s20
  have kw_20 : Below w.heap.size w w17 := Below.trans bk_ (hm17.below.mono om_)
  have krV3_20 : Below w7.heap.size w7 w17 := Below.trans bk_ (hm17.below.mono om_)
  have lb0_20 : w.heap.size < w17.heap.size := Nat.lt_of_lt_of_le (by go_simp) hm17.size
  have yb0_0_20 : w17.cell? ⟨w.heap.size, 0, none⟩ = some (.int .i64 Q) := (hm17.below.cell (p := ⟨w.heap.size, 0, none⟩) om_).trans (by go_simp)
  have yb0_1_20 : w17.cell? ⟨w.heap.size, 1, none⟩ = some (.int .i64 S) := (hm17.below.cell (p := ⟨w.heap.size, 1, none⟩) om_).trans (by go_simp)
  have yb0_2_20 : w17.cell? ⟨w.heap.size, 2, none⟩ = some (.slice A q ca) := (hm17.below.cell (p := ⟨w.heap.size, 2, none⟩) om_).trans (by go_simp)
  have lb1_20 : w.heap.size + 1 < w17.heap.size := Nat.lt_of_lt_of_le (by go_simp) hm17.size
  have yb1_0_20 : w17.cell? ⟨w.heap.size + 1, 0, none⟩ = some (.slice F nf cf) := (hm17.below.cell (p := ⟨w.heap.size + 1, 0, none⟩) om_).trans (by go_simp)
  have yb1_1_20 : w17.cell? ⟨w.heap.size + 1, 1, none⟩ = some (.int .i64 h) := (hm17.below.cell (p := ⟨w.heap.size + 1, 1, none⟩) om_).trans (by go_simp)
  have yb1_2_20 : w17.cell? ⟨w.heap.size + 1, 2, none⟩ = some (.int .i64 s) := (hm17.below.cell (p := ⟨w.heap.size + 1, 2, none⟩) om_).trans (by go_simp)
  have lb2_20 : bF3 < w17.heap.size := Nat.lt_of_lt_of_le (by go_simp) hm17.size
  have yb2_0_20 : w17.cell? ⟨bF3, 0, none⟩ = some (.slice VA6 (machR Q S ms fl h s).1.gs.length ka6) := (hm17.below.cell (p := ⟨bF3, 0, none⟩) om_).trans (by go_simp)
  have yb2_1_20 : w17.cell? ⟨bF3, 1, none⟩ = some (.slice VB6 (machR Q S ms fl h s).1.ts.length kb6) := (hm17.below.cell (p := ⟨bF3, 1, none⟩) om_).trans (by go_simp)
  have yb2_2_20 : w17.cell? ⟨bF3, 2, none⟩ = some (.slice VC6 (machR Q S ms fl h s).1.xs.length kd6) := (hm17.below.cell (p := ⟨bF3, 2, none⟩) om_).trans (by go_simp)
  have yb2_3_20 : w17.cell? ⟨bF3, 3, none⟩ = some (.int .i64 (machR Q S ms fl h s).1.t) := (hm17.below.cell (p := ⟨bF3, 3, none⟩) om_).trans (by go_simp)
  have lb3_20 : w8.heap.size < w17.heap.size := Nat.lt_of_lt_of_le (by go_simp) hm17.size
  have yb3_0_20 : w17.cell? ⟨w8.heap.size, 0, none⟩ = some (.int .i64 Q) := (hm17.below.cell (p := ⟨w8.heap.size, 0, none⟩) om_).trans (by go_simp)
  have yb3_1_20 : w17.cell? ⟨w8.heap.size, 1, none⟩ = some (.int .i64 S) := (hm17.below.cell (p := ⟨w8.heap.size, 1, none⟩) om_).trans (by go_simp)
  have yb3_2_20 : w17.cell? ⟨w8.heap.size, 2, none⟩ = some (.slice A8 q q) := (hm17.below.cell (p := ⟨w8.heap.size, 2, none⟩) om_).trans (by go_simp)
  have lb4_20 : w9.heap.size < w17.heap.size := Nat.lt_of_lt_of_le (by go_simp) hm17.size
  have yb4_0_20 : w17.cell? ⟨w9.heap.size, 0, none⟩ = some (.slice F9 nf nf) := (World.cell?_of_block (a := ⟨w9.heap.size, 0, none⟩) (hm17.keep (w9.heap.size) om_ (by go_simp))).trans (by go_simp)
  have yb4_1_20 : w17.cell? ⟨w9.heap.size, 1, none⟩ = some (.int .i64 h) := (World.cell?_of_block (a := ⟨w9.heap.size, 1, none⟩) (hm17.keep (w9.heap.size) om_ (by go_simp))).trans (by go_simp)
  have yb4_2_20 : w17.cell? ⟨w9.heap.size, 2, none⟩ = some (.int .i64 s) := (World.cell?_of_block (a := ⟨w9.heap.size, 2, none⟩) (hm17.keep (w9.heap.size) om_ (by go_simp))).trans (by go_simp)
  have lb5_20 : w10.heap.size < w17.heap.size := Nat.lt_of_lt_of_le (by go_simp) hm17.size
  have yb5_0_20 : w17.cell? ⟨w10.heap.size, 0, none⟩ = some (.slice VA10 (machR Q S ms fl h s).1.gs.length ka10) := (World.cell?_of_block (a := ⟨w10.heap.size, 0, none⟩) (hm17.keep (w10.heap.size) om_ (by go_simp))).trans (by go_simp)
  have yb5_1_20 : w17.cell? ⟨w10.heap.size, 1, none⟩ = some (.slice VB10 (machR Q S ms fl h s).1.ts.length kb10) := (World.cell?_of_block (a := ⟨w10.heap.size, 1, none⟩) (hm17.keep (w10.heap.size) om_ (by go_simp))).trans (by go_simp)
  have yb5_2_20 : w17.cell? ⟨w10.heap.size, 2, none⟩ = some (.slice VC10 (machR Q S ms fl h s).1.xs.length kd10) := (World.cell?_of_block (a := ⟨w10.heap.size, 2, none⟩) (hm17.keep (w10.heap.size) om_ (by go_simp))).trans (by go_simp)
  have yb5_3_20 : w17.cell? ⟨w10.heap.size, 3, none⟩ = some (.int .i64 (machR Q S ms fl h s).1.t) := (World.cell?_of_block (a := ⟨w10.heap.size, 3, none⟩) (hm17.keep (w10.heap.size) om_ (by go_simp))).trans (by go_simp)
  have OG10a_20 := Lib.hid (OwnSy.mkd (OwnSy.below OG10a_19.out bk_) hm17 om_)
  clear OG10a_19 yb5_3_19 yb5_2_19 yb5_1_19 yb5_0_19 lb5_19 yb4_2_19 yb4_1_19 yb4_0_19 lb4_19 yb3_2_19 yb3_1_19 yb3_0_19 lb3_19 yb2_3_19 yb2_2_19 yb2_1_19 yb2_0_19 lb2_19 yb1_2_19 yb1_1_19 yb1_0_19 lb1_19 yb0_2_19 yb0_1_19 yb0_0_19 lb0_19 krV3_19 kw_19 s20
  clear hm17
  go_wp2_with fail
  refine (eqSystem_r _ _ _ _ _ _ _ _ _ _ _ _ (machR Q S ms fl h s).1 _ (OwnSy.rd (OwnSy.below OG10a_20.out bk_)) (OwnSy.rd (OwnSy.below vV6_0H.out bk_)) hRl.out).mono ?_
  rintro e w18 ⟨rfl, hb18⟩
  have s21 : w17.heap.size ≤ w18.heap.size := by have := hb18.size; (try simp at this); omega
  have s21H := Lib.hid s21
  have kw_21 : Below w.heap.size w w18 := bl_tr bk_ hb18
  have krV3_21 : Below w7.heap.size w7 w18 := bl_tr bk_ hb18
  have lb0_21 : w.heap.size < w18.heap.size := Nat.lt_of_lt_of_le (by go_simp) hb18.size
  have yb0_0_21 : w18.cell? ⟨w.heap.size, 0, none⟩ = some (.int .i64 Q) := (hb18.cell (p := ⟨w.heap.size, 0, none⟩) (by go_simp)).trans (by go_simp)
  have yb0_1_21 : w18.cell? ⟨w.heap.size, 1, none⟩ = some (.int .i64 S) := (hb18.cell (p := ⟨w.heap.size, 1, none⟩) (by go_simp)).trans (by go_simp)
  have yb0_2_21 : w18.cell? ⟨w.heap.size, 2, none⟩ = some (.slice A q ca) := (hb18.cell (p := ⟨w.heap.size, 2, none⟩) (by go_simp)).trans (by go_simp)
  have lb1_21 : w.heap.size + 1 < w18.heap.size := Nat.lt_of_lt_of_le (by go_simp) hb18.size
  have yb1_0_21 : w18.cell? ⟨w.heap.size + 1, 0, none⟩ = some (.slice F nf cf) := (hb18.cell (p := ⟨w.heap.size + 1, 0, none⟩) (by go_simp)).trans (by go_simp)
  have yb1_1_21 : w18.cell? ⟨w.heap.size + 1, 1, none⟩ = some (.int .i64 h) := (hb18.cell (p := ⟨w.heap.size + 1, 1, none⟩) (by go_simp)).trans (by go_simp)
  have yb1_2_21 : w18.cell? ⟨w.heap.size + 1, 2, none⟩ = some (.int .i64 s) := (hb18.cell (p := ⟨w.heap.size + 1, 2, none⟩) (by go_simp)).trans (by go_simp)
  have lb2_21 : bF3 < w18.heap.size := Nat.lt_of_lt_of_le (by go_simp) hb18.size
  have yb2_0_21 : w18.cell? ⟨bF3, 0, none⟩ = some (.slice VA6 (machR Q S ms fl h s).1.gs.length ka6) := (hb18.cell (p := ⟨bF3, 0, none⟩) (by go_simp)).trans (by go_simp)
  have yb2_1_21 : w18.cell? ⟨bF3, 1, none⟩ = some (.slice VB6 (machR Q S ms fl h s).1.ts.length kb6) := (hb18.cell (p := ⟨bF3, 1, none⟩) (by go_simp)).trans (by go_simp)
  have yb2_2_21 : w18.cell? ⟨bF3, 2, none⟩ = some (.slice VC6 (machR Q S ms fl h s).1.xs.length kd6) := (hb18.cell (p := ⟨bF3, 2, none⟩) (by go_simp)).trans (by go_simp)
  have yb2_3_21 : w18.cell? ⟨bF3, 3, none⟩ = some (.int .i64 (machR Q S ms fl h s).1.t) := (hb18.cell (p := ⟨bF3, 3, none⟩) (by go_simp)).trans (by go_simp)
  have lb3_21 : w8.heap.size < w18.heap.size := Nat.lt_of_lt_of_le (by go_simp) hb18.size
  have yb3_0_21 : w18.cell? ⟨w8.heap.size, 0, none⟩ = some (.int .i64 Q) := (hb18.cell (p := ⟨w8.heap.size, 0, none⟩) (by go_simp)).trans (by go_simp)
  have yb3_1_21 : w18.cell? ⟨w8.heap.size, 1, none⟩ = some (.int .i64 S) := (hb18.cell (p := ⟨w8.heap.size, 1, none⟩) (by go_simp)).trans (by go_simp)
  have yb3_2_21 : w18.cell? ⟨w8.heap.size, 2, none⟩ = some (.slice A8 q q) := (hb18.cell (p := ⟨w8.heap.size, 2, none⟩) (by go_simp)).trans (by go_simp)
  have lb4_21 : w9.heap.size < w18.heap.size := Nat.lt_of_lt_of_le (by go_simp) hb18.size
  have yb4_0_21 : w18.cell? ⟨w9.heap.size, 0, none⟩ = some (.slice F9 nf nf) := (hb18.cell (p := ⟨w9.heap.size, 0, none⟩) (by go_simp)).trans (by go_simp)
  have yb4_1_21 : w18.cell? ⟨w9.heap.size, 1, none⟩ = some (.int .i64 h) := (hb18.cell (p := ⟨w9.heap.size, 1, none⟩) (by go_simp)).trans (by go_simp)
  have yb4_2_21 : w18.cell? ⟨w9.heap.size, 2, none⟩ = some (.int .i64 s) := (hb18.cell (p := ⟨w9.heap.size, 2, none⟩) (by go_simp)).trans (by go_simp)
  have lb5_21 : w10.heap.size < w18.heap.size := Nat.lt_of_lt_of_le (by go_simp) hb18.size
  have yb5_0_21 : w18.cell? ⟨w10.heap.size, 0, none⟩ = some (.slice VA10 (machR Q S ms fl h s).1.gs.length ka10) := (hb18.cell (p := ⟨w10.heap.size, 0, none⟩) (by go_simp)).trans (by go_simp)
  have yb5_1_21 : w18.cell? ⟨w10.heap.size, 1, none⟩ = some (.slice VB10 (machR Q S ms fl h s).1.ts.length kb10) := (hb18.cell (p := ⟨w10.heap.size, 1, none⟩) (by go_simp)).trans (by go_simp)
  have yb5_2_21 : w18.cell? ⟨w10.heap.size, 2, none⟩ = some (.slice VC10 (machR Q S ms fl h s).1.xs.length kd10) := (hb18.cell (p := ⟨w10.heap.size, 2, none⟩) (by go_simp)).trans (by go_simp)
  have yb5_3_21 : w18.cell? ⟨w10.heap.size, 3, none⟩ = some (.int .i64 (machR Q S ms fl h s).1.t) := (hb18.cell (p := ⟨w10.heap.size, 3, none⟩) (by go_simp)).trans (by go_simp)
  have OG10a_21 := Lib.hid (OwnSy.below (OwnSy.below OG10a_20.out bk_) hb18)
  clear OG10a_20 yb5_3_20 yb5_2_20 yb5_1_20 yb5_0_20 lb5_20 yb4_2_20 yb4_1_20 yb4_0_20 lb4_20 yb3_2_20 yb3_1_20 yb3_0_20 lb3_20 yb2_3_20 yb2_2_20 yb2_1_20 yb2_0_20 lb2_20 yb1_2_20 yb1_1_20 yb1_0_20 lb1_20 yb0_2_20 yb0_1_20 yb0_0_20 lb0_20 krV3_20 kw_20 s21
  clear hb18
  go_wp2_with fail
  refine (markSystem_r _ _ _ _ _ _ 1 (w9.heap.size + 1) _ _ _ _ (OwnSy.below OG10a_21.out bk_) om_ (by have := hRl.out.g; have := hRl.out.t; have := hRl.out.x; omega)).mono ?_
  rintro e w19 ⟨rfl, hm19, mc19⟩
  clear OG10a_21
  have s22 : w18.heap.size ≤ w19.heap.size := by have := hm19.size; (try simp at this); omega
  have s22H := Lib.hid s22
  have kw_22 : Below w.heap.size w w19 := Below.trans bk_ (hm19.below.mono om_)
  have krV3_22 : Below w7.heap.size w7 w19 := Below.trans bk_ (hm19.below.mono om_)
  have lb0_22 : w.heap.size < w19.heap.size := Nat.lt_of_lt_of_le (by go_simp) hm19.size
  have yb0_0_22 : w19.cell? ⟨w.heap.size, 0, none⟩ = some (.int .i64 Q) := (hm19.below.cell (p := ⟨w.heap.size, 0, none⟩) om_).trans (by go_simp)
  have yb0_1_22 : w19.cell? ⟨w.heap.size, 1, none⟩ = some (.int .i64 S) := (hm19.below.cell (p := ⟨w.heap.size, 1, none⟩) om_).trans (by go_simp)
  have yb0_2_22 : w19.cell? ⟨w.heap.size, 2, none⟩ = some (.slice A q ca) := (hm19.below.cell (p := ⟨w.heap.size, 2, none⟩) om_).trans (by go_simp)
  have lb1_22 : w.heap.size + 1 < w19.heap.size := Nat.lt_of_lt_of_le (by go_simp) hm19.size
  have yb1_0_22 : w19.cell? ⟨w.heap.size + 1, 0, none⟩ = some (.slice F nf cf) := (hm19.below.cell (p := ⟨w.heap.size + 1, 0, none⟩) om_).trans (by go_simp)
  have yb1_1_22 : w19.cell? ⟨w.heap.size + 1, 1, none⟩ = some (.int .i64 h) := (hm19.below.cell (p := ⟨w.heap.size + 1, 1, none⟩) om_).trans (by go_simp)
  have yb1_2_22 : w19.cell? ⟨w.heap.size + 1, 2, none⟩ = some (.int .i64 s) := (hm19.below.cell (p := ⟨w.heap.size + 1, 2, none⟩) om_).trans (by go_simp)
  have lb2_22 : bF3 < w19.heap.size := Nat.lt_of_lt_of_le (by go_simp) hm19.size
  have yb2_0_22 : w19.cell? ⟨bF3, 0, none⟩ = some (.slice VA6 (machR Q S ms fl h s).1.gs.length ka6) := (hm19.below.cell (p := ⟨bF3, 0, none⟩) om_).trans (by go_simp)
  have yb2_1_22 : w19.cell? ⟨bF3, 1, none⟩ = some (.slice VB6 (machR Q S ms fl h s).1.ts.length kb6) := (hm19.below.cell (p := ⟨bF3, 1, none⟩) om_).trans (by go_simp)
  have yb2_2_22 : w19.cell? ⟨bF3, 2, none⟩ = some (.slice VC6 (machR Q S ms fl h s).1.xs.length kd6) := (hm19.below.cell (p := ⟨bF3, 2, none⟩) om_).trans (by go_simp)
  have yb2_3_22 : w19.cell? ⟨bF3, 3, none⟩ = some (.int .i64 (machR Q S ms fl h s).1.t) := (hm19.below.cell (p := ⟨bF3, 3, none⟩) om_).trans (by go_simp)
  have lb3_22 : w8.heap.size < w19.heap.size := Nat.lt_of_lt_of_le (by go_simp) hm19.size
  have yb3_0_22 : w19.cell? ⟨w8.heap.size, 0, none⟩ = some (.int .i64 Q) := (hm19.below.cell (p := ⟨w8.heap.size, 0, none⟩) om_).trans (by go_simp)
  have yb3_1_22 : w19.cell? ⟨w8.heap.size, 1, none⟩ = some (.int .i64 S) := (hm19.below.cell (p := ⟨w8.heap.size, 1, none⟩) om_).trans (by go_simp)
  have yb3_2_22 : w19.cell? ⟨w8.heap.size, 2, none⟩ = some (.slice A8 q q) := (hm19.below.cell (p := ⟨w8.heap.size, 2, none⟩) om_).trans (by go_simp)
  have lb4_22 : w9.heap.size < w19.heap.size := Nat.lt_of_lt_of_le (by go_simp) hm19.size
  have yb4_0_22 : w19.cell? ⟨w9.heap.size, 0, none⟩ = some (.slice F9 nf nf) := (hm19.below.cell (p := ⟨w9.heap.size, 0, none⟩) om_).trans (by go_simp)
  have yb4_1_22 : w19.cell? ⟨w9.heap.size, 1, none⟩ = some (.int .i64 h) := (hm19.below.cell (p := ⟨w9.heap.size, 1, none⟩) om_).trans (by go_simp)
  have yb4_2_22 : w19.cell? ⟨w9.heap.size, 2, none⟩ = some (.int .i64 s) := (hm19.below.cell (p := ⟨w9.heap.size, 2, none⟩) om_).trans (by go_simp)
  have lb5_22 : w10.heap.size < w19.heap.size := Nat.lt_of_lt_of_le (by go_simp) hm19.size
  have yb5_0_22 : w19.cell? ⟨w10.heap.size, 0, none⟩ = some (.slice VA10 (machR Q S ms fl h s).1.gs.length ka10) := (World.cell?_of_block (a := ⟨w10.heap.size, 0, none⟩) (hm19.keep (w10.heap.size) om_ (by go_simp))).trans (by go_simp)
  have yb5_1_22 : w19.cell? ⟨w10.heap.size, 1, none⟩ = some (.slice VB10 (machR Q S ms fl h s).1.ts.length kb10) := (World.cell?_of_block (a := ⟨w10.heap.size, 1, none⟩) (hm19.keep (w10.heap.size) om_ (by go_simp))).trans (by go_simp)
  have yb5_2_22 : w19.cell? ⟨w10.heap.size, 2, none⟩ = some (.slice VC10 (machR Q S ms fl h s).1.xs.length kd10) := (World.cell?_of_block (a := ⟨w10.heap.size, 2, none⟩) (hm19.keep (w10.heap.size) om_ (by go_simp))).trans (by go_simp)
  have yb5_3_22 : w19.cell? ⟨w10.heap.size, 3, none⟩ = some (.int .i64 (machR Q S ms fl h s).1.t) := (World.cell?_of_block (a := ⟨w10.heap.size, 3, none⟩) (hm19.keep (w10.heap.size) om_ (by go_simp))).trans (by go_simp)
  clear yb5_3_21 yb5_2_21 yb5_1_21 yb5_0_21 lb5_21 yb4_2_21 yb4_1_21 yb4_0_21 lb4_21 yb3_2_21 yb3_1_21 yb3_0_21 lb3_21 yb2_3_21 yb2_2_21 yb2_1_21 yb2_0_21 lb2_21 yb1_2_21 yb1_1_21 yb1_0_21 lb1_21 yb0_2_21 yb0_1_21 yb0_0_21 lb0_21 krV3_21 kw_21 s22
  have Mc19 := Lib.hid mc19
  clear mc19 hm19
  go_wp2_with fail
  refine (heldSystem_r _ _ _ _ _ _ 1 _ _ _ _ _ (MarkedSy.below Mc19.out bk_ om_) om_ (by have := hRl.out.g; have := hRl.out.t; have := hRl.out.x; omega)).mono ?_
  rintro e w20 ⟨rfl, hb20⟩
  have s23 : w19.heap.size ≤ w20.heap.size := by have := hb20.size; (try simp at this); omega
  have s23H := Lib.hid s23
  have kw_23 : Below w.heap.size w w20 := bl_tr bk_ hb20
  have krV3_23 : Below w7.heap.size w7 w20 := bl_tr bk_ hb20
  have lb0_23 : w.heap.size < w20.heap.size := Nat.lt_of_lt_of_le (by go_simp) hb20.size
  have yb0_0_23 : w20.cell? ⟨w.heap.size, 0, none⟩ = some (.int .i64 Q) := (hb20.cell (p := ⟨w.heap.size, 0, none⟩) (by go_simp)).trans (by go_simp)
  have yb0_1_23 : w20.cell? ⟨w.heap.size, 1, none⟩ = some (.int .i64 S) := (hb20.cell (p := ⟨w.heap.size, 1, none⟩) (by go_simp)).trans (by go_simp)
  have yb0_2_23 : w20.cell? ⟨w.heap.size, 2, none⟩ = some (.slice A q ca) := (hb20.cell (p := ⟨w.heap.size, 2, none⟩) (by go_simp)).trans (by go_simp)
  have lb1_23 : w.heap.size + 1 < w20.heap.size := Nat.lt_of_lt_of_le (by go_simp) hb20.size
  have yb1_0_23 : w20.cell? ⟨w.heap.size + 1, 0, none⟩ = some (.slice F nf cf) := (hb20.cell (p := ⟨w.heap.size + 1, 0, none⟩) (by go_simp)).trans (by go_simp)
  have yb1_1_23 : w20.cell? ⟨w.heap.size + 1, 1, none⟩ = some (.int .i64 h) := (hb20.cell (p := ⟨w.heap.size + 1, 1, none⟩) (by go_simp)).trans (by go_simp)
  have yb1_2_23 : w20.cell? ⟨w.heap.size + 1, 2, none⟩ = some (.int .i64 s) := (hb20.cell (p := ⟨w.heap.size + 1, 2, none⟩) (by go_simp)).trans (by go_simp)
  have lb2_23 : bF3 < w20.heap.size := Nat.lt_of_lt_of_le (by go_simp) hb20.size
  have yb2_0_23 : w20.cell? ⟨bF3, 0, none⟩ = some (.slice VA6 (machR Q S ms fl h s).1.gs.length ka6) := (hb20.cell (p := ⟨bF3, 0, none⟩) (by go_simp)).trans (by go_simp)
  have yb2_1_23 : w20.cell? ⟨bF3, 1, none⟩ = some (.slice VB6 (machR Q S ms fl h s).1.ts.length kb6) := (hb20.cell (p := ⟨bF3, 1, none⟩) (by go_simp)).trans (by go_simp)
  have yb2_2_23 : w20.cell? ⟨bF3, 2, none⟩ = some (.slice VC6 (machR Q S ms fl h s).1.xs.length kd6) := (hb20.cell (p := ⟨bF3, 2, none⟩) (by go_simp)).trans (by go_simp)
  have yb2_3_23 : w20.cell? ⟨bF3, 3, none⟩ = some (.int .i64 (machR Q S ms fl h s).1.t) := (hb20.cell (p := ⟨bF3, 3, none⟩) (by go_simp)).trans (by go_simp)
  have lb3_23 : w8.heap.size < w20.heap.size := Nat.lt_of_lt_of_le (by go_simp) hb20.size
  have yb3_0_23 : w20.cell? ⟨w8.heap.size, 0, none⟩ = some (.int .i64 Q) := (hb20.cell (p := ⟨w8.heap.size, 0, none⟩) (by go_simp)).trans (by go_simp)
  have yb3_1_23 : w20.cell? ⟨w8.heap.size, 1, none⟩ = some (.int .i64 S) := (hb20.cell (p := ⟨w8.heap.size, 1, none⟩) (by go_simp)).trans (by go_simp)
  have yb3_2_23 : w20.cell? ⟨w8.heap.size, 2, none⟩ = some (.slice A8 q q) := (hb20.cell (p := ⟨w8.heap.size, 2, none⟩) (by go_simp)).trans (by go_simp)
  have lb4_23 : w9.heap.size < w20.heap.size := Nat.lt_of_lt_of_le (by go_simp) hb20.size
  have yb4_0_23 : w20.cell? ⟨w9.heap.size, 0, none⟩ = some (.slice F9 nf nf) := (hb20.cell (p := ⟨w9.heap.size, 0, none⟩) (by go_simp)).trans (by go_simp)
  have yb4_1_23 : w20.cell? ⟨w9.heap.size, 1, none⟩ = some (.int .i64 h) := (hb20.cell (p := ⟨w9.heap.size, 1, none⟩) (by go_simp)).trans (by go_simp)
  have yb4_2_23 : w20.cell? ⟨w9.heap.size, 2, none⟩ = some (.int .i64 s) := (hb20.cell (p := ⟨w9.heap.size, 2, none⟩) (by go_simp)).trans (by go_simp)
  have lb5_23 : w10.heap.size < w20.heap.size := Nat.lt_of_lt_of_le (by go_simp) hb20.size
  have yb5_0_23 : w20.cell? ⟨w10.heap.size, 0, none⟩ = some (.slice VA10 (machR Q S ms fl h s).1.gs.length ka10) := (hb20.cell (p := ⟨w10.heap.size, 0, none⟩) (by go_simp)).trans (by go_simp)
  have yb5_1_23 : w20.cell? ⟨w10.heap.size, 1, none⟩ = some (.slice VB10 (machR Q S ms fl h s).1.ts.length kb10) := (hb20.cell (p := ⟨w10.heap.size, 1, none⟩) (by go_simp)).trans (by go_simp)
  have yb5_2_23 : w20.cell? ⟨w10.heap.size, 2, none⟩ = some (.slice VC10 (machR Q S ms fl h s).1.xs.length kd10) := (hb20.cell (p := ⟨w10.heap.size, 2, none⟩) (by go_simp)).trans (by go_simp)
  have yb5_3_23 : w20.cell? ⟨w10.heap.size, 3, none⟩ = some (.int .i64 (machR Q S ms fl h s).1.t) := (hb20.cell (p := ⟨w10.heap.size, 3, none⟩) (by go_simp)).trans (by go_simp)
  have Mc19_23 := Lib.hid (MarkedSy.below (MarkedSy.below Mc19.out bk_ om_) hb20 om_)
  clear Mc19 yb5_3_22 yb5_2_22 yb5_1_22 yb5_0_22 lb5_22 yb4_2_22 yb4_1_22 yb4_0_22 lb4_22 yb3_2_22 yb3_1_22 yb3_0_22 lb3_22 yb2_3_22 yb2_2_22 yb2_1_22 yb2_0_22 lb2_22 yb1_2_22 yb1_1_22 yb1_0_22 lb1_22 yb0_2_22 yb0_1_22 yb0_0_22 lb0_22 krV3_22 kw_22 s23
  clear hb20
  have kR21 : Below w20.heap.size w20 w20 := bl_refl _
  go_wp2_with fail
  refine wp_region_fl 8 [(0, .q), (2, .q), (1, .g), (3, .g), (4, .g), (5, .q), (6, .q), (7, .p)] [(9, .b), (10, .q)] _ (Obj.cells #[.slice none 0 0, .slice none 0 0, .slice none 0 0, .int .i64 0] 38) (by kernel_rfl) (by kernel_rfl) (by kernel_rfl) (by kernel_rfl) rfl (fun a w => ⟨rfl, by unfold flPtr; go_simp⟩) ?_
  simp only [pick, List.filterMap_cons, List.filterMap_nil, List.getElem?_toArray, List.getElem?_cons_zero, List.getElem?_cons_succ, Option.map_some]
  repeat (first | ((with_reducible refine wpL_p (fun K hK => ?_)); go_simp; refine hK _ ?_; clear hK K) | ((with_reducible refine wpL_q (fun K hK => ?_)); go_simp; (first | refine hK _ ?_ | (go_bits; refine hK _ ?_) | (go_bits; go_simp; refine hK _ ?_)); clear hK K))
  with_reducible refine wpL_g rfl (fun K hK st22 w22u mv22 => ?_)
  have hu22 := mv22.below
  have fu22 := (FlAt.none (Obj.cells #[.slice none 0 0, .slice none 0 0, .slice none 0 0, .int .i64 0] 38) (World.drew _)).mv mv22
  have Hmv22 := Lib.hid mv22
  clear mv22
  have s24 : w20.heap.size ≤ w22u.heap.size := by have := hu22.size; (try simp at this); omega
  have s24H := Lib.hid s24
  have kw_24 : Below w.heap.size w w22u := bl_tr bk_ hu22
  have krV3_24 : Below w7.heap.size w7 w22u := bl_tr bk_ hu22
  have kR21_24 : Below w20.heap.size w20 w22u := bl_tr bk_ hu22
  have lb0_24 : w.heap.size < w22u.heap.size := Nat.lt_of_lt_of_le (by go_simp) hu22.size
  have yb0_0_24 : w22u.cell? ⟨w.heap.size, 0, none⟩ = some (.int .i64 Q) := (hu22.cell (p := ⟨w.heap.size, 0, none⟩) (by go_simp)).trans (by go_simp)
  have yb0_1_24 : w22u.cell? ⟨w.heap.size, 1, none⟩ = some (.int .i64 S) := (hu22.cell (p := ⟨w.heap.size, 1, none⟩) (by go_simp)).trans (by go_simp)
  have yb0_2_24 : w22u.cell? ⟨w.heap.size, 2, none⟩ = some (.slice A q ca) := (hu22.cell (p := ⟨w.heap.size, 2, none⟩) (by go_simp)).trans (by go_simp)
  have lb1_24 : w.heap.size + 1 < w22u.heap.size := Nat.lt_of_lt_of_le (by go_simp) hu22.size
  have yb1_0_24 : w22u.cell? ⟨w.heap.size + 1, 0, none⟩ = some (.slice F nf cf) := (hu22.cell (p := ⟨w.heap.size + 1, 0, none⟩) (by go_simp)).trans (by go_simp)
  have yb1_1_24 : w22u.cell? ⟨w.heap.size + 1, 1, none⟩ = some (.int .i64 h) := (hu22.cell (p := ⟨w.heap.size + 1, 1, none⟩) (by go_simp)).trans (by go_simp)
  have yb1_2_24 : w22u.cell? ⟨w.heap.size + 1, 2, none⟩ = some (.int .i64 s) := (hu22.cell (p := ⟨w.heap.size + 1, 2, none⟩) (by go_simp)).trans (by go_simp)
  have lb2_24 : bF3 < w22u.heap.size := Nat.lt_of_lt_of_le (by go_simp) hu22.size
  have yb2_0_24 : w22u.cell? ⟨bF3, 0, none⟩ = some (.slice VA6 (machR Q S ms fl h s).1.gs.length ka6) := (hu22.cell (p := ⟨bF3, 0, none⟩) (by go_simp)).trans (by go_simp)
  have yb2_1_24 : w22u.cell? ⟨bF3, 1, none⟩ = some (.slice VB6 (machR Q S ms fl h s).1.ts.length kb6) := (hu22.cell (p := ⟨bF3, 1, none⟩) (by go_simp)).trans (by go_simp)
  have yb2_2_24 : w22u.cell? ⟨bF3, 2, none⟩ = some (.slice VC6 (machR Q S ms fl h s).1.xs.length kd6) := (hu22.cell (p := ⟨bF3, 2, none⟩) (by go_simp)).trans (by go_simp)
  have yb2_3_24 : w22u.cell? ⟨bF3, 3, none⟩ = some (.int .i64 (machR Q S ms fl h s).1.t) := (hu22.cell (p := ⟨bF3, 3, none⟩) (by go_simp)).trans (by go_simp)
  have lb3_24 : w8.heap.size < w22u.heap.size := Nat.lt_of_lt_of_le (by go_simp) hu22.size
  have yb3_0_24 : w22u.cell? ⟨w8.heap.size, 0, none⟩ = some (.int .i64 Q) := (hu22.cell (p := ⟨w8.heap.size, 0, none⟩) (by go_simp)).trans (by go_simp)
  have yb3_1_24 : w22u.cell? ⟨w8.heap.size, 1, none⟩ = some (.int .i64 S) := (hu22.cell (p := ⟨w8.heap.size, 1, none⟩) (by go_simp)).trans (by go_simp)
  have yb3_2_24 : w22u.cell? ⟨w8.heap.size, 2, none⟩ = some (.slice A8 q q) := (hu22.cell (p := ⟨w8.heap.size, 2, none⟩) (by go_simp)).trans (by go_simp)
  have lb4_24 : w9.heap.size < w22u.heap.size := Nat.lt_of_lt_of_le (by go_simp) hu22.size
  have yb4_0_24 : w22u.cell? ⟨w9.heap.size, 0, none⟩ = some (.slice F9 nf nf) := (hu22.cell (p := ⟨w9.heap.size, 0, none⟩) (by go_simp)).trans (by go_simp)
  have yb4_1_24 : w22u.cell? ⟨w9.heap.size, 1, none⟩ = some (.int .i64 h) := (hu22.cell (p := ⟨w9.heap.size, 1, none⟩) (by go_simp)).trans (by go_simp)
  have yb4_2_24 : w22u.cell? ⟨w9.heap.size, 2, none⟩ = some (.int .i64 s) := (hu22.cell (p := ⟨w9.heap.size, 2, none⟩) (by go_simp)).trans (by go_simp)
  have lb5_24 : w10.heap.size < w22u.heap.size := Nat.lt_of_lt_of_le (by go_simp) hu22.size
  have yb5_0_24 : w22u.cell? ⟨w10.heap.size, 0, none⟩ = some (.slice VA10 (machR Q S ms fl h s).1.gs.length ka10) := (hu22.cell (p := ⟨w10.heap.size, 0, none⟩) (by go_simp)).trans (by go_simp)
  have yb5_1_24 : w22u.cell? ⟨w10.heap.size, 1, none⟩ = some (.slice VB10 (machR Q S ms fl h s).1.ts.length kb10) := (hu22.cell (p := ⟨w10.heap.size, 1, none⟩) (by go_simp)).trans (by go_simp)
  have yb5_2_24 : w22u.cell? ⟨w10.heap.size, 2, none⟩ = some (.slice VC10 (machR Q S ms fl h s).1.xs.length kd10) := (hu22.cell (p := ⟨w10.heap.size, 2, none⟩) (by go_simp)).trans (by go_simp)
  have yb5_3_24 : w22u.cell? ⟨w10.heap.size, 3, none⟩ = some (.int .i64 (machR Q S ms fl h s).1.t) := (hu22.cell (p := ⟨w10.heap.size, 3, none⟩) (by go_simp)).trans (by go_simp)
  have Mc19_24 := Lib.hid (MarkedSy.below (MarkedSy.below Mc19_23.out bk_ om_) hu22 om_)
  go_simp
  refine (toMachine_any _ _ _ _ _ ms _ (hA.below RMv.stable bk_) (by omega)).mono ?_
  rintro e w22 ⟨A22, rfl, o22, hb22⟩
  refine ⟨_, rfl, hb22, hK _ _ _ ?_⟩
  clear hK K
  have fd22 := fu22.below hb22
  have s25 : w22u.heap.size ≤ w22.heap.size := by have := hb22.size; (try simp at this); omega
  have s25H := Lib.hid s25
  have kw_25 : Below w.heap.size w w22 := bl_tr bk_ hb22
  have krV3_25 : Below w7.heap.size w7 w22 := bl_tr bk_ hb22
  have kR21_25 : Below w20.heap.size w20 w22 := bl_tr bk_ hb22
  have lb0_25 : w.heap.size < w22.heap.size := Nat.lt_of_lt_of_le (by go_simp) hb22.size
  have yb0_0_25 : w22.cell? ⟨w.heap.size, 0, none⟩ = some (.int .i64 Q) := (hb22.cell (p := ⟨w.heap.size, 0, none⟩) (by go_simp)).trans (by go_simp)
  have yb0_1_25 : w22.cell? ⟨w.heap.size, 1, none⟩ = some (.int .i64 S) := (hb22.cell (p := ⟨w.heap.size, 1, none⟩) (by go_simp)).trans (by go_simp)
  have yb0_2_25 : w22.cell? ⟨w.heap.size, 2, none⟩ = some (.slice A q ca) := (hb22.cell (p := ⟨w.heap.size, 2, none⟩) (by go_simp)).trans (by go_simp)
  have lb1_25 : w.heap.size + 1 < w22.heap.size := Nat.lt_of_lt_of_le (by go_simp) hb22.size
  have yb1_0_25 : w22.cell? ⟨w.heap.size + 1, 0, none⟩ = some (.slice F nf cf) := (hb22.cell (p := ⟨w.heap.size + 1, 0, none⟩) (by go_simp)).trans (by go_simp)
  have yb1_1_25 : w22.cell? ⟨w.heap.size + 1, 1, none⟩ = some (.int .i64 h) := (hb22.cell (p := ⟨w.heap.size + 1, 1, none⟩) (by go_simp)).trans (by go_simp)
  have yb1_2_25 : w22.cell? ⟨w.heap.size + 1, 2, none⟩ = some (.int .i64 s) := (hb22.cell (p := ⟨w.heap.size + 1, 2, none⟩) (by go_simp)).trans (by go_simp)
  have lb2_25 : bF3 < w22.heap.size := Nat.lt_of_lt_of_le (by go_simp) hb22.size
  have yb2_0_25 : w22.cell? ⟨bF3, 0, none⟩ = some (.slice VA6 (machR Q S ms fl h s).1.gs.length ka6) := (hb22.cell (p := ⟨bF3, 0, none⟩) (by go_simp)).trans (by go_simp)
  have yb2_1_25 : w22.cell? ⟨bF3, 1, none⟩ = some (.slice VB6 (machR Q S ms fl h s).1.ts.length kb6) := (hb22.cell (p := ⟨bF3, 1, none⟩) (by go_simp)).trans (by go_simp)
  have yb2_2_25 : w22.cell? ⟨bF3, 2, none⟩ = some (.slice VC6 (machR Q S ms fl h s).1.xs.length kd6) := (hb22.cell (p := ⟨bF3, 2, none⟩) (by go_simp)).trans (by go_simp)
  have yb2_3_25 : w22.cell? ⟨bF3, 3, none⟩ = some (.int .i64 (machR Q S ms fl h s).1.t) := (hb22.cell (p := ⟨bF3, 3, none⟩) (by go_simp)).trans (by go_simp)
  have lb3_25 : w8.heap.size < w22.heap.size := Nat.lt_of_lt_of_le (by go_simp) hb22.size
  have yb3_0_25 : w22.cell? ⟨w8.heap.size, 0, none⟩ = some (.int .i64 Q) := (hb22.cell (p := ⟨w8.heap.size, 0, none⟩) (by go_simp)).trans (by go_simp)
  have yb3_1_25 : w22.cell? ⟨w8.heap.size, 1, none⟩ = some (.int .i64 S) := (hb22.cell (p := ⟨w8.heap.size, 1, none⟩) (by go_simp)).trans (by go_simp)
  have yb3_2_25 : w22.cell? ⟨w8.heap.size, 2, none⟩ = some (.slice A8 q q) := (hb22.cell (p := ⟨w8.heap.size, 2, none⟩) (by go_simp)).trans (by go_simp)
  have lb4_25 : w9.heap.size < w22.heap.size := Nat.lt_of_lt_of_le (by go_simp) hb22.size
  have yb4_0_25 : w22.cell? ⟨w9.heap.size, 0, none⟩ = some (.slice F9 nf nf) := (hb22.cell (p := ⟨w9.heap.size, 0, none⟩) (by go_simp)).trans (by go_simp)
  have yb4_1_25 : w22.cell? ⟨w9.heap.size, 1, none⟩ = some (.int .i64 h) := (hb22.cell (p := ⟨w9.heap.size, 1, none⟩) (by go_simp)).trans (by go_simp)
  have yb4_2_25 : w22.cell? ⟨w9.heap.size, 2, none⟩ = some (.int .i64 s) := (hb22.cell (p := ⟨w9.heap.size, 2, none⟩) (by go_simp)).trans (by go_simp)
  have lb5_25 : w10.heap.size < w22.heap.size := Nat.lt_of_lt_of_le (by go_simp) hb22.size
  have yb5_0_25 : w22.cell? ⟨w10.heap.size, 0, none⟩ = some (.slice VA10 (machR Q S ms fl h s).1.gs.length ka10) := (hb22.cell (p := ⟨w10.heap.size, 0, none⟩) (by go_simp)).trans (by go_simp)
  have yb5_1_25 : w22.cell? ⟨w10.heap.size, 1, none⟩ = some (.slice VB10 (machR Q S ms fl h s).1.ts.length kb10) := (hb22.cell (p := ⟨w10.heap.size, 1, none⟩) (by go_simp)).trans (by go_simp)
  have yb5_2_25 : w22.cell? ⟨w10.heap.size, 2, none⟩ = some (.slice VC10 (machR Q S ms fl h s).1.xs.length kd10) := (hb22.cell (p := ⟨w10.heap.size, 2, none⟩) (by go_simp)).trans (by go_simp)
  have yb5_3_25 : w22.cell? ⟨w10.heap.size, 3, none⟩ = some (.int .i64 (machR Q S ms fl h s).1.t) := (hb22.cell (p := ⟨w10.heap.size, 3, none⟩) (by go_simp)).trans (by go_simp)
  have Mc19_25 := Lib.hid (MarkedSy.below (MarkedSy.below Mc19_24.out bk_ om_) hb22 om_)
  clear hb22
  have kc22 : Below w22.heap.size w22 w22 := bl_refl _
  have o22H := Lib.hid o22
  clear o22
  with_reducible refine wpL_g rfl (fun K hK st23 w23u mv23 => ?_)
  have hu23 := mv23.below
  have fu23 := fd22.mv mv23
  have Hmv23 := Lib.hid mv23
  clear mv23
  have s26 : w22.heap.size ≤ w23u.heap.size := by have := hu23.size; (try simp at this); omega
  have s26H := Lib.hid s26
  have kw_26 : Below w.heap.size w w23u := bl_tr bk_ hu23
  have krV3_26 : Below w7.heap.size w7 w23u := bl_tr bk_ hu23
  have kR21_26 : Below w20.heap.size w20 w23u := bl_tr bk_ hu23
  have kc22_26 : Below w22.heap.size w22 w23u := bl_tr bk_ hu23
  have lb0_26 : w.heap.size < w23u.heap.size := Nat.lt_of_lt_of_le (by go_simp) hu23.size
  have yb0_0_26 : w23u.cell? ⟨w.heap.size, 0, none⟩ = some (.int .i64 Q) := (hu23.cell (p := ⟨w.heap.size, 0, none⟩) (by go_simp)).trans (by go_simp)
  have yb0_1_26 : w23u.cell? ⟨w.heap.size, 1, none⟩ = some (.int .i64 S) := (hu23.cell (p := ⟨w.heap.size, 1, none⟩) (by go_simp)).trans (by go_simp)
  have yb0_2_26 : w23u.cell? ⟨w.heap.size, 2, none⟩ = some (.slice A q ca) := (hu23.cell (p := ⟨w.heap.size, 2, none⟩) (by go_simp)).trans (by go_simp)
  have lb1_26 : w.heap.size + 1 < w23u.heap.size := Nat.lt_of_lt_of_le (by go_simp) hu23.size
  have yb1_0_26 : w23u.cell? ⟨w.heap.size + 1, 0, none⟩ = some (.slice F nf cf) := (hu23.cell (p := ⟨w.heap.size + 1, 0, none⟩) (by go_simp)).trans (by go_simp)
  have yb1_1_26 : w23u.cell? ⟨w.heap.size + 1, 1, none⟩ = some (.int .i64 h) := (hu23.cell (p := ⟨w.heap.size + 1, 1, none⟩) (by go_simp)).trans (by go_simp)
  have yb1_2_26 : w23u.cell? ⟨w.heap.size + 1, 2, none⟩ = some (.int .i64 s) := (hu23.cell (p := ⟨w.heap.size + 1, 2, none⟩) (by go_simp)).trans (by go_simp)
  have lb2_26 : bF3 < w23u.heap.size := Nat.lt_of_lt_of_le (by go_simp) hu23.size
  have yb2_0_26 : w23u.cell? ⟨bF3, 0, none⟩ = some (.slice VA6 (machR Q S ms fl h s).1.gs.length ka6) := (hu23.cell (p := ⟨bF3, 0, none⟩) (by go_simp)).trans (by go_simp)
  have yb2_1_26 : w23u.cell? ⟨bF3, 1, none⟩ = some (.slice VB6 (machR Q S ms fl h s).1.ts.length kb6) := (hu23.cell (p := ⟨bF3, 1, none⟩) (by go_simp)).trans (by go_simp)
  have yb2_2_26 : w23u.cell? ⟨bF3, 2, none⟩ = some (.slice VC6 (machR Q S ms fl h s).1.xs.length kd6) := (hu23.cell (p := ⟨bF3, 2, none⟩) (by go_simp)).trans (by go_simp)
  have yb2_3_26 : w23u.cell? ⟨bF3, 3, none⟩ = some (.int .i64 (machR Q S ms fl h s).1.t) := (hu23.cell (p := ⟨bF3, 3, none⟩) (by go_simp)).trans (by go_simp)
  have lb3_26 : w8.heap.size < w23u.heap.size := Nat.lt_of_lt_of_le (by go_simp) hu23.size
  have yb3_0_26 : w23u.cell? ⟨w8.heap.size, 0, none⟩ = some (.int .i64 Q) := (hu23.cell (p := ⟨w8.heap.size, 0, none⟩) (by go_simp)).trans (by go_simp)
  have yb3_1_26 : w23u.cell? ⟨w8.heap.size, 1, none⟩ = some (.int .i64 S) := (hu23.cell (p := ⟨w8.heap.size, 1, none⟩) (by go_simp)).trans (by go_simp)
  have yb3_2_26 : w23u.cell? ⟨w8.heap.size, 2, none⟩ = some (.slice A8 q q) := (hu23.cell (p := ⟨w8.heap.size, 2, none⟩) (by go_simp)).trans (by go_simp)
  have lb4_26 : w9.heap.size < w23u.heap.size := Nat.lt_of_lt_of_le (by go_simp) hu23.size
  have yb4_0_26 : w23u.cell? ⟨w9.heap.size, 0, none⟩ = some (.slice F9 nf nf) := (hu23.cell (p := ⟨w9.heap.size, 0, none⟩) (by go_simp)).trans (by go_simp)
  have yb4_1_26 : w23u.cell? ⟨w9.heap.size, 1, none⟩ = some (.int .i64 h) := (hu23.cell (p := ⟨w9.heap.size, 1, none⟩) (by go_simp)).trans (by go_simp)
  have yb4_2_26 : w23u.cell? ⟨w9.heap.size, 2, none⟩ = some (.int .i64 s) := (hu23.cell (p := ⟨w9.heap.size, 2, none⟩) (by go_simp)).trans (by go_simp)
  have lb5_26 : w10.heap.size < w23u.heap.size := Nat.lt_of_lt_of_le (by go_simp) hu23.size
  have yb5_0_26 : w23u.cell? ⟨w10.heap.size, 0, none⟩ = some (.slice VA10 (machR Q S ms fl h s).1.gs.length ka10) := (hu23.cell (p := ⟨w10.heap.size, 0, none⟩) (by go_simp)).trans (by go_simp)
  have yb5_1_26 : w23u.cell? ⟨w10.heap.size, 1, none⟩ = some (.slice VB10 (machR Q S ms fl h s).1.ts.length kb10) := (hu23.cell (p := ⟨w10.heap.size, 1, none⟩) (by go_simp)).trans (by go_simp)
  have yb5_2_26 : w23u.cell? ⟨w10.heap.size, 2, none⟩ = some (.slice VC10 (machR Q S ms fl h s).1.xs.length kd10) := (hu23.cell (p := ⟨w10.heap.size, 2, none⟩) (by go_simp)).trans (by go_simp)
  have yb5_3_26 : w23u.cell? ⟨w10.heap.size, 3, none⟩ = some (.int .i64 (machR Q S ms fl h s).1.t) := (hu23.cell (p := ⟨w10.heap.size, 3, none⟩) (by go_simp)).trans (by go_simp)
  have Mc19_26 := Lib.hid (MarkedSy.below (MarkedSy.below Mc19_25.out bk_ om_) hu23 om_)
  go_simp
  refine (toConfig_any _ _ _ _ _ fl _ (hF.below RInt.stable bk_) (by omega)).mono ?_
  rintro e w23 ⟨F23, rfl, o23, hb23⟩
  refine ⟨_, rfl, hb23, hK _ _ _ ?_⟩
  clear hK K
  have fd23 := fu23.below hb23
  have s27 : w23u.heap.size ≤ w23.heap.size := by have := hb23.size; (try simp at this); omega
  have s27H := Lib.hid s27
  have kw_27 : Below w.heap.size w w23 := bl_tr bk_ hb23
  have krV3_27 : Below w7.heap.size w7 w23 := bl_tr bk_ hb23
  have kR21_27 : Below w20.heap.size w20 w23 := bl_tr bk_ hb23
  have kc22_27 : Below w22.heap.size w22 w23 := bl_tr bk_ hb23
  have lb0_27 : w.heap.size < w23.heap.size := Nat.lt_of_lt_of_le (by go_simp) hb23.size
  have yb0_0_27 : w23.cell? ⟨w.heap.size, 0, none⟩ = some (.int .i64 Q) := (hb23.cell (p := ⟨w.heap.size, 0, none⟩) (by go_simp)).trans (by go_simp)
  have yb0_1_27 : w23.cell? ⟨w.heap.size, 1, none⟩ = some (.int .i64 S) := (hb23.cell (p := ⟨w.heap.size, 1, none⟩) (by go_simp)).trans (by go_simp)
  have yb0_2_27 : w23.cell? ⟨w.heap.size, 2, none⟩ = some (.slice A q ca) := (hb23.cell (p := ⟨w.heap.size, 2, none⟩) (by go_simp)).trans (by go_simp)
  have lb1_27 : w.heap.size + 1 < w23.heap.size := Nat.lt_of_lt_of_le (by go_simp) hb23.size
  have yb1_0_27 : w23.cell? ⟨w.heap.size + 1, 0, none⟩ = some (.slice F nf cf) := (hb23.cell (p := ⟨w.heap.size + 1, 0, none⟩) (by go_simp)).trans (by go_simp)
  have yb1_1_27 : w23.cell? ⟨w.heap.size + 1, 1, none⟩ = some (.int .i64 h) := (hb23.cell (p := ⟨w.heap.size + 1, 1, none⟩) (by go_simp)).trans (by go_simp)
  have yb1_2_27 : w23.cell? ⟨w.heap.size + 1, 2, none⟩ = some (.int .i64 s) := (hb23.cell (p := ⟨w.heap.size + 1, 2, none⟩) (by go_simp)).trans (by go_simp)
  have lb2_27 : bF3 < w23.heap.size := Nat.lt_of_lt_of_le (by go_simp) hb23.size
  have yb2_0_27 : w23.cell? ⟨bF3, 0, none⟩ = some (.slice VA6 (machR Q S ms fl h s).1.gs.length ka6) := (hb23.cell (p := ⟨bF3, 0, none⟩) (by go_simp)).trans (by go_simp)
  have yb2_1_27 : w23.cell? ⟨bF3, 1, none⟩ = some (.slice VB6 (machR Q S ms fl h s).1.ts.length kb6) := (hb23.cell (p := ⟨bF3, 1, none⟩) (by go_simp)).trans (by go_simp)
  have yb2_2_27 : w23.cell? ⟨bF3, 2, none⟩ = some (.slice VC6 (machR Q S ms fl h s).1.xs.length kd6) := (hb23.cell (p := ⟨bF3, 2, none⟩) (by go_simp)).trans (by go_simp)
  have yb2_3_27 : w23.cell? ⟨bF3, 3, none⟩ = some (.int .i64 (machR Q S ms fl h s).1.t) := (hb23.cell (p := ⟨bF3, 3, none⟩) (by go_simp)).trans (by go_simp)
  have lb3_27 : w8.heap.size < w23.heap.size := Nat.lt_of_lt_of_le (by go_simp) hb23.size
  have yb3_0_27 : w23.cell? ⟨w8.heap.size, 0, none⟩ = some (.int .i64 Q) := (hb23.cell (p := ⟨w8.heap.size, 0, none⟩) (by go_simp)).trans (by go_simp)
  have yb3_1_27 : w23.cell? ⟨w8.heap.size, 1, none⟩ = some (.int .i64 S) := (hb23.cell (p := ⟨w8.heap.size, 1, none⟩) (by go_simp)).trans (by go_simp)
  have yb3_2_27 : w23.cell? ⟨w8.heap.size, 2, none⟩ = some (.slice A8 q q) := (hb23.cell (p := ⟨w8.heap.size, 2, none⟩) (by go_simp)).trans (by go_simp)
  have lb4_27 : w9.heap.size < w23.heap.size := Nat.lt_of_lt_of_le (by go_simp) hb23.size
  have yb4_0_27 : w23.cell? ⟨w9.heap.size, 0, none⟩ = some (.slice F9 nf nf) := (hb23.cell (p := ⟨w9.heap.size, 0, none⟩) (by go_simp)).trans (by go_simp)
  have yb4_1_27 : w23.cell? ⟨w9.heap.size, 1, none⟩ = some (.int .i64 h) := (hb23.cell (p := ⟨w9.heap.size, 1, none⟩) (by go_simp)).trans (by go_simp)
  have yb4_2_27 : w23.cell? ⟨w9.heap.size, 2, none⟩ = some (.int .i64 s) := (hb23.cell (p := ⟨w9.heap.size, 2, none⟩) (by go_simp)).trans (by go_simp)
  have lb5_27 : w10.heap.size < w23.heap.size := Nat.lt_of_lt_of_le (by go_simp) hb23.size
  have yb5_0_27 : w23.cell? ⟨w10.heap.size, 0, none⟩ = some (.slice VA10 (machR Q S ms fl h s).1.gs.length ka10) := (hb23.cell (p := ⟨w10.heap.size, 0, none⟩) (by go_simp)).trans (by go_simp)
  have yb5_1_27 : w23.cell? ⟨w10.heap.size, 1, none⟩ = some (.slice VB10 (machR Q S ms fl h s).1.ts.length kb10) := (hb23.cell (p := ⟨w10.heap.size, 1, none⟩) (by go_simp)).trans (by go_simp)
  have yb5_2_27 : w23.cell? ⟨w10.heap.size, 2, none⟩ = some (.slice VC10 (machR Q S ms fl h s).1.xs.length kd10) := (hb23.cell (p := ⟨w10.heap.size, 2, none⟩) (by go_simp)).trans (by go_simp)
  have yb5_3_27 : w23.cell? ⟨w10.heap.size, 3, none⟩ = some (.int .i64 (machR Q S ms fl h s).1.t) := (hb23.cell (p := ⟨w10.heap.size, 3, none⟩) (by go_simp)).trans (by go_simp)
  have Mc19_27 := Lib.hid (MarkedSy.below (MarkedSy.below Mc19_26.out bk_ om_) hb23 om_)
  clear hb23
  have kc23 : Below w23.heap.size w23 w23 := bl_refl _
  have o23H := Lib.hid o23
  clear o23
  with_reducible refine wpL_g rfl (fun K hK st24 w24u mv24 => ?_)
  have hu24 := mv24.below
  have fu24 := fd23.mv mv24
  have Hmv24 := Lib.hid mv24
  clear mv24
  have s28 : w23.heap.size ≤ w24u.heap.size := by have := hu24.size; (try simp at this); omega
  have s28H := Lib.hid s28
  have kw_28 : Below w.heap.size w w24u := bl_tr bk_ hu24
  have krV3_28 : Below w7.heap.size w7 w24u := bl_tr bk_ hu24
  have kR21_28 : Below w20.heap.size w20 w24u := bl_tr bk_ hu24
  have kc22_28 : Below w22.heap.size w22 w24u := bl_tr bk_ hu24
  have kc23_28 : Below w23.heap.size w23 w24u := bl_tr bk_ hu24
  have lb0_28 : w.heap.size < w24u.heap.size := Nat.lt_of_lt_of_le (by go_simp) hu24.size
  have yb0_0_28 : w24u.cell? ⟨w.heap.size, 0, none⟩ = some (.int .i64 Q) := (hu24.cell (p := ⟨w.heap.size, 0, none⟩) (by go_simp)).trans (by go_simp)
  have yb0_1_28 : w24u.cell? ⟨w.heap.size, 1, none⟩ = some (.int .i64 S) := (hu24.cell (p := ⟨w.heap.size, 1, none⟩) (by go_simp)).trans (by go_simp)
  have yb0_2_28 : w24u.cell? ⟨w.heap.size, 2, none⟩ = some (.slice A q ca) := (hu24.cell (p := ⟨w.heap.size, 2, none⟩) (by go_simp)).trans (by go_simp)
  have lb1_28 : w.heap.size + 1 < w24u.heap.size := Nat.lt_of_lt_of_le (by go_simp) hu24.size
  have yb1_0_28 : w24u.cell? ⟨w.heap.size + 1, 0, none⟩ = some (.slice F nf cf) := (hu24.cell (p := ⟨w.heap.size + 1, 0, none⟩) (by go_simp)).trans (by go_simp)
  have yb1_1_28 : w24u.cell? ⟨w.heap.size + 1, 1, none⟩ = some (.int .i64 h) := (hu24.cell (p := ⟨w.heap.size + 1, 1, none⟩) (by go_simp)).trans (by go_simp)
  have yb1_2_28 : w24u.cell? ⟨w.heap.size + 1, 2, none⟩ = some (.int .i64 s) := (hu24.cell (p := ⟨w.heap.size + 1, 2, none⟩) (by go_simp)).trans (by go_simp)
  have lb2_28 : bF3 < w24u.heap.size := Nat.lt_of_lt_of_le (by go_simp) hu24.size
  have yb2_0_28 : w24u.cell? ⟨bF3, 0, none⟩ = some (.slice VA6 (machR Q S ms fl h s).1.gs.length ka6) := (hu24.cell (p := ⟨bF3, 0, none⟩) (by go_simp)).trans (by go_simp)
  have yb2_1_28 : w24u.cell? ⟨bF3, 1, none⟩ = some (.slice VB6 (machR Q S ms fl h s).1.ts.length kb6) := (hu24.cell (p := ⟨bF3, 1, none⟩) (by go_simp)).trans (by go_simp)
  have yb2_2_28 : w24u.cell? ⟨bF3, 2, none⟩ = some (.slice VC6 (machR Q S ms fl h s).1.xs.length kd6) := (hu24.cell (p := ⟨bF3, 2, none⟩) (by go_simp)).trans (by go_simp)
  have yb2_3_28 : w24u.cell? ⟨bF3, 3, none⟩ = some (.int .i64 (machR Q S ms fl h s).1.t) := (hu24.cell (p := ⟨bF3, 3, none⟩) (by go_simp)).trans (by go_simp)
  have lb3_28 : w8.heap.size < w24u.heap.size := Nat.lt_of_lt_of_le (by go_simp) hu24.size
  have yb3_0_28 : w24u.cell? ⟨w8.heap.size, 0, none⟩ = some (.int .i64 Q) := (hu24.cell (p := ⟨w8.heap.size, 0, none⟩) (by go_simp)).trans (by go_simp)
  have yb3_1_28 : w24u.cell? ⟨w8.heap.size, 1, none⟩ = some (.int .i64 S) := (hu24.cell (p := ⟨w8.heap.size, 1, none⟩) (by go_simp)).trans (by go_simp)
  have yb3_2_28 : w24u.cell? ⟨w8.heap.size, 2, none⟩ = some (.slice A8 q q) := (hu24.cell (p := ⟨w8.heap.size, 2, none⟩) (by go_simp)).trans (by go_simp)
  have lb4_28 : w9.heap.size < w24u.heap.size := Nat.lt_of_lt_of_le (by go_simp) hu24.size
  have yb4_0_28 : w24u.cell? ⟨w9.heap.size, 0, none⟩ = some (.slice F9 nf nf) := (hu24.cell (p := ⟨w9.heap.size, 0, none⟩) (by go_simp)).trans (by go_simp)
  have yb4_1_28 : w24u.cell? ⟨w9.heap.size, 1, none⟩ = some (.int .i64 h) := (hu24.cell (p := ⟨w9.heap.size, 1, none⟩) (by go_simp)).trans (by go_simp)
  have yb4_2_28 : w24u.cell? ⟨w9.heap.size, 2, none⟩ = some (.int .i64 s) := (hu24.cell (p := ⟨w9.heap.size, 2, none⟩) (by go_simp)).trans (by go_simp)
  have lb5_28 : w10.heap.size < w24u.heap.size := Nat.lt_of_lt_of_le (by go_simp) hu24.size
  have yb5_0_28 : w24u.cell? ⟨w10.heap.size, 0, none⟩ = some (.slice VA10 (machR Q S ms fl h s).1.gs.length ka10) := (hu24.cell (p := ⟨w10.heap.size, 0, none⟩) (by go_simp)).trans (by go_simp)
  have yb5_1_28 : w24u.cell? ⟨w10.heap.size, 1, none⟩ = some (.slice VB10 (machR Q S ms fl h s).1.ts.length kb10) := (hu24.cell (p := ⟨w10.heap.size, 1, none⟩) (by go_simp)).trans (by go_simp)
  have yb5_2_28 : w24u.cell? ⟨w10.heap.size, 2, none⟩ = some (.slice VC10 (machR Q S ms fl h s).1.xs.length kd10) := (hu24.cell (p := ⟨w10.heap.size, 2, none⟩) (by go_simp)).trans (by go_simp)
  have yb5_3_28 : w24u.cell? ⟨w10.heap.size, 3, none⟩ = some (.int .i64 (machR Q S ms fl h s).1.t) := (hu24.cell (p := ⟨w10.heap.size, 3, none⟩) (by go_simp)).trans (by go_simp)
  have Mc19_28 := Lib.hid (MarkedSy.below (MarkedSy.below Mc19_27.out bk_ om_) hu24 om_)
  go_simp
  refine (MachineSystem_any Q S h s _ _ _ _ _ _ ms fl _ (o22H.out.rd.below RMv.stable bk_) (o23H.out.rd.below RInt.stable bk_) (by omega) (by omega) (hTab.out.below bk_)).mono ?_
  rintro e w24 ⟨VA24, VB24, VC24, ka24, kb24, kd24, us24, rfl, v24, hb24⟩
  refine ⟨_, rfl, hb24, hK _ _ _ ?_⟩
  clear hK K
  have fd24 := fu24.below hb24
  have s29 : w24u.heap.size ≤ w24.heap.size := by have := hb24.size; (try simp at this); omega
  have s29H := Lib.hid s29
  have kw_29 : Below w.heap.size w w24 := bl_tr bk_ hb24
  have krV3_29 : Below w7.heap.size w7 w24 := bl_tr bk_ hb24
  have kR21_29 : Below w20.heap.size w20 w24 := bl_tr bk_ hb24
  have kc22_29 : Below w22.heap.size w22 w24 := bl_tr bk_ hb24
  have kc23_29 : Below w23.heap.size w23 w24 := bl_tr bk_ hb24
  have lb0_29 : w.heap.size < w24.heap.size := Nat.lt_of_lt_of_le (by go_simp) hb24.size
  have yb0_0_29 : w24.cell? ⟨w.heap.size, 0, none⟩ = some (.int .i64 Q) := (hb24.cell (p := ⟨w.heap.size, 0, none⟩) (by go_simp)).trans (by go_simp)
  have yb0_1_29 : w24.cell? ⟨w.heap.size, 1, none⟩ = some (.int .i64 S) := (hb24.cell (p := ⟨w.heap.size, 1, none⟩) (by go_simp)).trans (by go_simp)
  have yb0_2_29 : w24.cell? ⟨w.heap.size, 2, none⟩ = some (.slice A q ca) := (hb24.cell (p := ⟨w.heap.size, 2, none⟩) (by go_simp)).trans (by go_simp)
  have lb1_29 : w.heap.size + 1 < w24.heap.size := Nat.lt_of_lt_of_le (by go_simp) hb24.size
  have yb1_0_29 : w24.cell? ⟨w.heap.size + 1, 0, none⟩ = some (.slice F nf cf) := (hb24.cell (p := ⟨w.heap.size + 1, 0, none⟩) (by go_simp)).trans (by go_simp)
  have yb1_1_29 : w24.cell? ⟨w.heap.size + 1, 1, none⟩ = some (.int .i64 h) := (hb24.cell (p := ⟨w.heap.size + 1, 1, none⟩) (by go_simp)).trans (by go_simp)
  have yb1_2_29 : w24.cell? ⟨w.heap.size + 1, 2, none⟩ = some (.int .i64 s) := (hb24.cell (p := ⟨w.heap.size + 1, 2, none⟩) (by go_simp)).trans (by go_simp)
  have lb2_29 : bF3 < w24.heap.size := Nat.lt_of_lt_of_le (by go_simp) hb24.size
  have yb2_0_29 : w24.cell? ⟨bF3, 0, none⟩ = some (.slice VA6 (machR Q S ms fl h s).1.gs.length ka6) := (hb24.cell (p := ⟨bF3, 0, none⟩) (by go_simp)).trans (by go_simp)
  have yb2_1_29 : w24.cell? ⟨bF3, 1, none⟩ = some (.slice VB6 (machR Q S ms fl h s).1.ts.length kb6) := (hb24.cell (p := ⟨bF3, 1, none⟩) (by go_simp)).trans (by go_simp)
  have yb2_2_29 : w24.cell? ⟨bF3, 2, none⟩ = some (.slice VC6 (machR Q S ms fl h s).1.xs.length kd6) := (hb24.cell (p := ⟨bF3, 2, none⟩) (by go_simp)).trans (by go_simp)
  have yb2_3_29 : w24.cell? ⟨bF3, 3, none⟩ = some (.int .i64 (machR Q S ms fl h s).1.t) := (hb24.cell (p := ⟨bF3, 3, none⟩) (by go_simp)).trans (by go_simp)
  have lb3_29 : w8.heap.size < w24.heap.size := Nat.lt_of_lt_of_le (by go_simp) hb24.size
  have yb3_0_29 : w24.cell? ⟨w8.heap.size, 0, none⟩ = some (.int .i64 Q) := (hb24.cell (p := ⟨w8.heap.size, 0, none⟩) (by go_simp)).trans (by go_simp)
  have yb3_1_29 : w24.cell? ⟨w8.heap.size, 1, none⟩ = some (.int .i64 S) := (hb24.cell (p := ⟨w8.heap.size, 1, none⟩) (by go_simp)).trans (by go_simp)
  have yb3_2_29 : w24.cell? ⟨w8.heap.size, 2, none⟩ = some (.slice A8 q q) := (hb24.cell (p := ⟨w8.heap.size, 2, none⟩) (by go_simp)).trans (by go_simp)
  have lb4_29 : w9.heap.size < w24.heap.size := Nat.lt_of_lt_of_le (by go_simp) hb24.size
  have yb4_0_29 : w24.cell? ⟨w9.heap.size, 0, none⟩ = some (.slice F9 nf nf) := (hb24.cell (p := ⟨w9.heap.size, 0, none⟩) (by go_simp)).trans (by go_simp)
  have yb4_1_29 : w24.cell? ⟨w9.heap.size, 1, none⟩ = some (.int .i64 h) := (hb24.cell (p := ⟨w9.heap.size, 1, none⟩) (by go_simp)).trans (by go_simp)
  have yb4_2_29 : w24.cell? ⟨w9.heap.size, 2, none⟩ = some (.int .i64 s) := (hb24.cell (p := ⟨w9.heap.size, 2, none⟩) (by go_simp)).trans (by go_simp)
  have lb5_29 : w10.heap.size < w24.heap.size := Nat.lt_of_lt_of_le (by go_simp) hb24.size
  have yb5_0_29 : w24.cell? ⟨w10.heap.size, 0, none⟩ = some (.slice VA10 (machR Q S ms fl h s).1.gs.length ka10) := (hb24.cell (p := ⟨w10.heap.size, 0, none⟩) (by go_simp)).trans (by go_simp)
  have yb5_1_29 : w24.cell? ⟨w10.heap.size, 1, none⟩ = some (.slice VB10 (machR Q S ms fl h s).1.ts.length kb10) := (hb24.cell (p := ⟨w10.heap.size, 1, none⟩) (by go_simp)).trans (by go_simp)
  have yb5_2_29 : w24.cell? ⟨w10.heap.size, 2, none⟩ = some (.slice VC10 (machR Q S ms fl h s).1.xs.length kd10) := (hb24.cell (p := ⟨w10.heap.size, 2, none⟩) (by go_simp)).trans (by go_simp)
  have yb5_3_29 : w24.cell? ⟨w10.heap.size, 3, none⟩ = some (.int .i64 (machR Q S ms fl h s).1.t) := (hb24.cell (p := ⟨w10.heap.size, 3, none⟩) (by go_simp)).trans (by go_simp)
  have Mc19_29 := Lib.hid (MarkedSy.below (MarkedSy.below Mc19_28.out bk_ om_) hb24 om_)
  clear hb24
  have kr24 : Below w24.heap.size w24 w24 := bl_refl _
  have v24H := Lib.hid v24
  clear v24
  repeat (first | ((with_reducible refine wpL_p (fun K hK => ?_)); go_simp; refine hK _ ?_; clear hK K) | ((with_reducible refine wpL_q (fun K hK => ?_)); go_simp; (first | refine hK _ ?_ | (go_bits; refine hK _ ?_) | (go_bits; go_simp; refine hK _ ?_)); clear hK K))
  with_reducible refine wpL_nil (fun bF21 w21f mvF => ?_)
  have huF := mvF.below
  obtain ⟨fl21, fb21⟩ := (fd24.mv mvF).2 _ rfl
  clear mvF
  have s30 : w24.heap.size ≤ w21f.heap.size := by have := huF.size; (try simp at this); omega
  have s30H := Lib.hid s30
  have kw_30 : Below w.heap.size w w21f := bl_tr bk_ huF
  have krV3_30 : Below w7.heap.size w7 w21f := bl_tr bk_ huF
  have kR21_30 : Below w20.heap.size w20 w21f := bl_tr bk_ huF
  have kc22_30 : Below w22.heap.size w22 w21f := bl_tr bk_ huF
  have kc23_30 : Below w23.heap.size w23 w21f := bl_tr bk_ huF
  have kr24_30 : Below w24.heap.size w24 w21f := bl_tr bk_ huF
  have lb0_30 : w.heap.size < w21f.heap.size := Nat.lt_of_lt_of_le (by go_simp) huF.size
  have yb0_0_30 : w21f.cell? ⟨w.heap.size, 0, none⟩ = some (.int .i64 Q) := (huF.cell (p := ⟨w.heap.size, 0, none⟩) (by go_simp)).trans (by go_simp)
  have yb0_1_30 : w21f.cell? ⟨w.heap.size, 1, none⟩ = some (.int .i64 S) := (huF.cell (p := ⟨w.heap.size, 1, none⟩) (by go_simp)).trans (by go_simp)
  have yb0_2_30 : w21f.cell? ⟨w.heap.size, 2, none⟩ = some (.slice A q ca) := (huF.cell (p := ⟨w.heap.size, 2, none⟩) (by go_simp)).trans (by go_simp)
  have lb1_30 : w.heap.size + 1 < w21f.heap.size := Nat.lt_of_lt_of_le (by go_simp) huF.size
  have yb1_0_30 : w21f.cell? ⟨w.heap.size + 1, 0, none⟩ = some (.slice F nf cf) := (huF.cell (p := ⟨w.heap.size + 1, 0, none⟩) (by go_simp)).trans (by go_simp)
  have yb1_1_30 : w21f.cell? ⟨w.heap.size + 1, 1, none⟩ = some (.int .i64 h) := (huF.cell (p := ⟨w.heap.size + 1, 1, none⟩) (by go_simp)).trans (by go_simp)
  have yb1_2_30 : w21f.cell? ⟨w.heap.size + 1, 2, none⟩ = some (.int .i64 s) := (huF.cell (p := ⟨w.heap.size + 1, 2, none⟩) (by go_simp)).trans (by go_simp)
  have lb2_30 : bF3 < w21f.heap.size := Nat.lt_of_lt_of_le (by go_simp) huF.size
  have yb2_0_30 : w21f.cell? ⟨bF3, 0, none⟩ = some (.slice VA6 (machR Q S ms fl h s).1.gs.length ka6) := (huF.cell (p := ⟨bF3, 0, none⟩) (by go_simp)).trans (by go_simp)
  have yb2_1_30 : w21f.cell? ⟨bF3, 1, none⟩ = some (.slice VB6 (machR Q S ms fl h s).1.ts.length kb6) := (huF.cell (p := ⟨bF3, 1, none⟩) (by go_simp)).trans (by go_simp)
  have yb2_2_30 : w21f.cell? ⟨bF3, 2, none⟩ = some (.slice VC6 (machR Q S ms fl h s).1.xs.length kd6) := (huF.cell (p := ⟨bF3, 2, none⟩) (by go_simp)).trans (by go_simp)
  have yb2_3_30 : w21f.cell? ⟨bF3, 3, none⟩ = some (.int .i64 (machR Q S ms fl h s).1.t) := (huF.cell (p := ⟨bF3, 3, none⟩) (by go_simp)).trans (by go_simp)
  have lb3_30 : w8.heap.size < w21f.heap.size := Nat.lt_of_lt_of_le (by go_simp) huF.size
  have yb3_0_30 : w21f.cell? ⟨w8.heap.size, 0, none⟩ = some (.int .i64 Q) := (huF.cell (p := ⟨w8.heap.size, 0, none⟩) (by go_simp)).trans (by go_simp)
  have yb3_1_30 : w21f.cell? ⟨w8.heap.size, 1, none⟩ = some (.int .i64 S) := (huF.cell (p := ⟨w8.heap.size, 1, none⟩) (by go_simp)).trans (by go_simp)
  have yb3_2_30 : w21f.cell? ⟨w8.heap.size, 2, none⟩ = some (.slice A8 q q) := (huF.cell (p := ⟨w8.heap.size, 2, none⟩) (by go_simp)).trans (by go_simp)
  have lb4_30 : w9.heap.size < w21f.heap.size := Nat.lt_of_lt_of_le (by go_simp) huF.size
  have yb4_0_30 : w21f.cell? ⟨w9.heap.size, 0, none⟩ = some (.slice F9 nf nf) := (huF.cell (p := ⟨w9.heap.size, 0, none⟩) (by go_simp)).trans (by go_simp)
  have yb4_1_30 : w21f.cell? ⟨w9.heap.size, 1, none⟩ = some (.int .i64 h) := (huF.cell (p := ⟨w9.heap.size, 1, none⟩) (by go_simp)).trans (by go_simp)
  have yb4_2_30 : w21f.cell? ⟨w9.heap.size, 2, none⟩ = some (.int .i64 s) := (huF.cell (p := ⟨w9.heap.size, 2, none⟩) (by go_simp)).trans (by go_simp)
  have lb5_30 : w10.heap.size < w21f.heap.size := Nat.lt_of_lt_of_le (by go_simp) huF.size
  have yb5_0_30 : w21f.cell? ⟨w10.heap.size, 0, none⟩ = some (.slice VA10 (machR Q S ms fl h s).1.gs.length ka10) := (huF.cell (p := ⟨w10.heap.size, 0, none⟩) (by go_simp)).trans (by go_simp)
  have yb5_1_30 : w21f.cell? ⟨w10.heap.size, 1, none⟩ = some (.slice VB10 (machR Q S ms fl h s).1.ts.length kb10) := (huF.cell (p := ⟨w10.heap.size, 1, none⟩) (by go_simp)).trans (by go_simp)
  have yb5_2_30 : w21f.cell? ⟨w10.heap.size, 2, none⟩ = some (.slice VC10 (machR Q S ms fl h s).1.xs.length kd10) := (huF.cell (p := ⟨w10.heap.size, 2, none⟩) (by go_simp)).trans (by go_simp)
  have yb5_3_30 : w21f.cell? ⟨w10.heap.size, 3, none⟩ = some (.int .i64 (machR Q S ms fl h s).1.t) := (huF.cell (p := ⟨w10.heap.size, 3, none⟩) (by go_simp)).trans (by go_simp)
  have Mc19_30 := Lib.hid (MarkedSy.below (MarkedSy.below Mc19_29.out bk_ om_) huF om_)
  simp only [World.size_drew] at fl21
  have rF : w21f.rowIs bF21 38 4 (fun i => (#[.slice none 0 0, .slice none 0 0, .slice none 0 0, .int .i64 0] : Array Value).getD i undef) := ⟨_, fb21, rfl, fun i hi => by simp [hi]⟩
  have yF0 := rF.cell (i := 0) (by decide)
  have kF0 := rF.frozen 0
  have yF1 := rF.cell (i := 1) (by decide)
  have kF1 := rF.frozen 1
  have yF2 := rF.cell (i := 2) (by decide)
  have kF2 := rF.frozen 2
  have yF3 := rF.cell (i := 3) (by decide)
  have kF3 := rF.frozen 3
  have rFH := Lib.hid rF
  clear rF
  have vF24_0 := OwnSy.below v24H.out kr24_30
  have vF24_0H := Lib.hid vF24_0
  clear vF24_0
  simp only [flPtr]
  with_reducible refine wpD_b (fun K hK => ?_)
  go_simp
  refine hK _ _ ?_
  clear hK K
  repeat (first | ((with_reducible refine wpD_p (fun K hK => ?_)); go_simp; refine hK _ ?_; clear hK K) | ((with_reducible refine wpD_q (fun K hK => ?_)); go_simp; (first | refine hK _ ?_ | (go_bits; refine hK _ ?_) | (go_bits; go_simp; refine hK _ ?_)); clear hK K))
  with_reducible refine wpD_nil ?_
  obtain ⟨w25, hV⟩ : ∃ V, V = ((((w21f.setCell ⟨bF21, 0, none⟩ (.slice VA24 (machR Q S ms fl h s).1.gs.length ka24)).setCell ⟨bF21, 1, none⟩ (.slice VB24 (machR Q S ms fl h s).1.ts.length kb24)).setCell ⟨bF21, 2, none⟩ (.slice VC24 (machR Q S ms fl h s).1.xs.length kd24)).setCell ⟨bF21, 3, none⟩ (.int .i64 (machR Q S ms fl h s).1.t)) := ⟨_, rfl⟩
  rw [← hV]
  have rV := ((((rFH.out.set 0 (.slice VA24 (machR Q S ms fl h s).1.gs.length ka24)).set 1 (.slice VB24 (machR Q S ms fl h s).1.ts.length kb24)).set 2 (.slice VC24 (machR Q S ms fl h s).1.xs.length kd24)).set 3 (.int .i64 (machR Q S ms fl h s).1.t))
  have hb25 := ((((kR21_30.setCell (p := ⟨bF21, 0, none⟩) fl21 (.slice VA24 (machR Q S ms fl h s).1.gs.length ka24)).setCell (p := ⟨bF21, 1, none⟩) fl21 (.slice VB24 (machR Q S ms fl h s).1.ts.length kb24)).setCell (p := ⟨bF21, 2, none⟩) fl21 (.slice VC24 (machR Q S ms fl h s).1.xs.length kd24)).setCell (p := ⟨bF21, 3, none⟩) fl21 (.int .i64 (machR Q S ms fl h s).1.t))
  rw [← hV] at rV hb25
  have yg21_0 : w25.cell? ⟨bF21, 0, none⟩ = some (.slice VA24 (machR Q S ms fl h s).1.gs.length ka24) := by rw [rV.cell (i := 0) (by decide)]; simp
  have yg21_1 : w25.cell? ⟨bF21, 1, none⟩ = some (.slice VB24 (machR Q S ms fl h s).1.ts.length kb24) := by rw [rV.cell (i := 1) (by decide)]; simp
  have yg21_2 : w25.cell? ⟨bF21, 2, none⟩ = some (.slice VC24 (machR Q S ms fl h s).1.xs.length kd24) := by rw [rV.cell (i := 2) (by decide)]; simp
  have yg21_3 : w25.cell? ⟨bF21, 3, none⟩ = some (.int .i64 (machR Q S ms fl h s).1.t) := by rw [rV.cell (i := 3) (by decide)]; simp
  have lg21 := rV.lt
  have sF21H := Lib.hid lg21
  have vV24_0 := (OwnSy.fl (g := bF21) (i := 3) (OwnSy.fl (g := bF21) (i := 2) (OwnSy.fl (g := bF21) (i := 1) (OwnSy.fl (g := bF21) (i := 0) vF24_0H.out rFH.out (by decide) (.slice VA24 (machR Q S ms fl h s).1.gs.length ka24)) (rFH.out.set 0 (.slice VA24 (machR Q S ms fl h s).1.gs.length ka24)) (by decide) (.slice VB24 (machR Q S ms fl h s).1.ts.length kb24)) ((rFH.out.set 0 (.slice VA24 (machR Q S ms fl h s).1.gs.length ka24)).set 1 (.slice VB24 (machR Q S ms fl h s).1.ts.length kb24)) (by decide) (.slice VC24 (machR Q S ms fl h s).1.xs.length kd24)) (((rFH.out.set 0 (.slice VA24 (machR Q S ms fl h s).1.gs.length ka24)).set 1 (.slice VB24 (machR Q S ms fl h s).1.ts.length kb24)).set 2 (.slice VC24 (machR Q S ms fl h s).1.xs.length kd24)) (by decide) (.int .i64 (machR Q S ms fl h s).1.t))
  rw [← hV] at vV24_0
  have vV24_0H := Lib.hid vV24_0
  clear vV24_0
  clear yF3 kF3 yF2 kF2 yF1 kF1 yF0 kF0 rV
  have s31 : w20.heap.size ≤ w25.heap.size := by have := hb25.size; (try simp at this); omega
  have s31H := Lib.hid s31
  have kw_31 : Below w.heap.size w w25 := bl_tr bk_ hb25
  have krV3_31 : Below w7.heap.size w7 w25 := bl_tr bk_ hb25
  have lb0_31 : w.heap.size < w25.heap.size := Nat.lt_of_lt_of_le (by go_simp) hb25.size
  have yb0_0_31 : w25.cell? ⟨w.heap.size, 0, none⟩ = some (.int .i64 Q) := (hb25.cell (p := ⟨w.heap.size, 0, none⟩) (by go_simp)).trans (by go_simp)
  have yb0_1_31 : w25.cell? ⟨w.heap.size, 1, none⟩ = some (.int .i64 S) := (hb25.cell (p := ⟨w.heap.size, 1, none⟩) (by go_simp)).trans (by go_simp)
  have yb0_2_31 : w25.cell? ⟨w.heap.size, 2, none⟩ = some (.slice A q ca) := (hb25.cell (p := ⟨w.heap.size, 2, none⟩) (by go_simp)).trans (by go_simp)
  have lb1_31 : w.heap.size + 1 < w25.heap.size := Nat.lt_of_lt_of_le (by go_simp) hb25.size
  have yb1_0_31 : w25.cell? ⟨w.heap.size + 1, 0, none⟩ = some (.slice F nf cf) := (hb25.cell (p := ⟨w.heap.size + 1, 0, none⟩) (by go_simp)).trans (by go_simp)
  have yb1_1_31 : w25.cell? ⟨w.heap.size + 1, 1, none⟩ = some (.int .i64 h) := (hb25.cell (p := ⟨w.heap.size + 1, 1, none⟩) (by go_simp)).trans (by go_simp)
  have yb1_2_31 : w25.cell? ⟨w.heap.size + 1, 2, none⟩ = some (.int .i64 s) := (hb25.cell (p := ⟨w.heap.size + 1, 2, none⟩) (by go_simp)).trans (by go_simp)
  have lb2_31 : bF3 < w25.heap.size := Nat.lt_of_lt_of_le (by go_simp) hb25.size
  have yb2_0_31 : w25.cell? ⟨bF3, 0, none⟩ = some (.slice VA6 (machR Q S ms fl h s).1.gs.length ka6) := (hb25.cell (p := ⟨bF3, 0, none⟩) (by go_simp)).trans (by go_simp)
  have yb2_1_31 : w25.cell? ⟨bF3, 1, none⟩ = some (.slice VB6 (machR Q S ms fl h s).1.ts.length kb6) := (hb25.cell (p := ⟨bF3, 1, none⟩) (by go_simp)).trans (by go_simp)
  have yb2_2_31 : w25.cell? ⟨bF3, 2, none⟩ = some (.slice VC6 (machR Q S ms fl h s).1.xs.length kd6) := (hb25.cell (p := ⟨bF3, 2, none⟩) (by go_simp)).trans (by go_simp)
  have yb2_3_31 : w25.cell? ⟨bF3, 3, none⟩ = some (.int .i64 (machR Q S ms fl h s).1.t) := (hb25.cell (p := ⟨bF3, 3, none⟩) (by go_simp)).trans (by go_simp)
  have lb3_31 : w8.heap.size < w25.heap.size := Nat.lt_of_lt_of_le (by go_simp) hb25.size
  have yb3_0_31 : w25.cell? ⟨w8.heap.size, 0, none⟩ = some (.int .i64 Q) := (hb25.cell (p := ⟨w8.heap.size, 0, none⟩) (by go_simp)).trans (by go_simp)
  have yb3_1_31 : w25.cell? ⟨w8.heap.size, 1, none⟩ = some (.int .i64 S) := (hb25.cell (p := ⟨w8.heap.size, 1, none⟩) (by go_simp)).trans (by go_simp)
  have yb3_2_31 : w25.cell? ⟨w8.heap.size, 2, none⟩ = some (.slice A8 q q) := (hb25.cell (p := ⟨w8.heap.size, 2, none⟩) (by go_simp)).trans (by go_simp)
  have lb4_31 : w9.heap.size < w25.heap.size := Nat.lt_of_lt_of_le (by go_simp) hb25.size
  have yb4_0_31 : w25.cell? ⟨w9.heap.size, 0, none⟩ = some (.slice F9 nf nf) := (hb25.cell (p := ⟨w9.heap.size, 0, none⟩) (by go_simp)).trans (by go_simp)
  have yb4_1_31 : w25.cell? ⟨w9.heap.size, 1, none⟩ = some (.int .i64 h) := (hb25.cell (p := ⟨w9.heap.size, 1, none⟩) (by go_simp)).trans (by go_simp)
  have yb4_2_31 : w25.cell? ⟨w9.heap.size, 2, none⟩ = some (.int .i64 s) := (hb25.cell (p := ⟨w9.heap.size, 2, none⟩) (by go_simp)).trans (by go_simp)
  have lb5_31 : w10.heap.size < w25.heap.size := Nat.lt_of_lt_of_le (by go_simp) hb25.size
  have yb5_0_31 : w25.cell? ⟨w10.heap.size, 0, none⟩ = some (.slice VA10 (machR Q S ms fl h s).1.gs.length ka10) := (hb25.cell (p := ⟨w10.heap.size, 0, none⟩) (by go_simp)).trans (by go_simp)
  have yb5_1_31 : w25.cell? ⟨w10.heap.size, 1, none⟩ = some (.slice VB10 (machR Q S ms fl h s).1.ts.length kb10) := (hb25.cell (p := ⟨w10.heap.size, 1, none⟩) (by go_simp)).trans (by go_simp)
  have yb5_2_31 : w25.cell? ⟨w10.heap.size, 2, none⟩ = some (.slice VC10 (machR Q S ms fl h s).1.xs.length kd10) := (hb25.cell (p := ⟨w10.heap.size, 2, none⟩) (by go_simp)).trans (by go_simp)
  have yb5_3_31 : w25.cell? ⟨w10.heap.size, 3, none⟩ = some (.int .i64 (machR Q S ms fl h s).1.t) := (hb25.cell (p := ⟨w10.heap.size, 3, none⟩) (by go_simp)).trans (by go_simp)
  have Mc19_31 := Lib.hid (MarkedSy.below (MarkedSy.below Mc19_23.out bk_ om_) hb25 om_)
  clear Mc19_23 yb5_3_23 yb5_2_23 yb5_1_23 yb5_0_23 lb5_23 yb4_2_23 yb4_1_23 yb4_0_23 lb4_23 yb3_2_23 yb3_1_23 yb3_0_23 lb3_23 yb2_3_23 yb2_2_23 yb2_1_23 yb2_0_23 lb2_23 yb1_2_23 yb1_1_23 yb1_0_23 lb1_23 yb0_2_23 yb0_1_23 yb0_0_23 lb0_23 krV3_23 kw_23 s31
  clear hV hb25
  have krV21 : Below w25.heap.size w25 w25 := bl_refl _
  go_wp2_with fail
  refine (eqSystem_r _ _ _ _ _ _ _ _ _ _ _ _ (machR Q S ms fl h s).1 _ (OwnSy.rd (OwnSy.below vV24_0H.out bk_)) (OwnSy.rd (OwnSy.below vV6_0H.out bk_)) hRl.out).mono ?_
  rintro e w26 ⟨rfl, hb26⟩
  have s32 : w25.heap.size ≤ w26.heap.size := by have := hb26.size; (try simp at this); omega
  have s32H := Lib.hid s32
  have kw_32 : Below w.heap.size w w26 := bl_tr bk_ hb26
  have krV3_32 : Below w7.heap.size w7 w26 := bl_tr bk_ hb26
  have krV21_32 : Below w25.heap.size w25 w26 := bl_tr bk_ hb26
  have lb0_32 : w.heap.size < w26.heap.size := Nat.lt_of_lt_of_le (by go_simp) hb26.size
  have yb0_0_32 : w26.cell? ⟨w.heap.size, 0, none⟩ = some (.int .i64 Q) := (hb26.cell (p := ⟨w.heap.size, 0, none⟩) (by go_simp)).trans (by go_simp)
  have yb0_1_32 : w26.cell? ⟨w.heap.size, 1, none⟩ = some (.int .i64 S) := (hb26.cell (p := ⟨w.heap.size, 1, none⟩) (by go_simp)).trans (by go_simp)
  have yb0_2_32 : w26.cell? ⟨w.heap.size, 2, none⟩ = some (.slice A q ca) := (hb26.cell (p := ⟨w.heap.size, 2, none⟩) (by go_simp)).trans (by go_simp)
  have lb1_32 : w.heap.size + 1 < w26.heap.size := Nat.lt_of_lt_of_le (by go_simp) hb26.size
  have yb1_0_32 : w26.cell? ⟨w.heap.size + 1, 0, none⟩ = some (.slice F nf cf) := (hb26.cell (p := ⟨w.heap.size + 1, 0, none⟩) (by go_simp)).trans (by go_simp)
  have yb1_1_32 : w26.cell? ⟨w.heap.size + 1, 1, none⟩ = some (.int .i64 h) := (hb26.cell (p := ⟨w.heap.size + 1, 1, none⟩) (by go_simp)).trans (by go_simp)
  have yb1_2_32 : w26.cell? ⟨w.heap.size + 1, 2, none⟩ = some (.int .i64 s) := (hb26.cell (p := ⟨w.heap.size + 1, 2, none⟩) (by go_simp)).trans (by go_simp)
  have lb2_32 : bF3 < w26.heap.size := Nat.lt_of_lt_of_le (by go_simp) hb26.size
  have yb2_0_32 : w26.cell? ⟨bF3, 0, none⟩ = some (.slice VA6 (machR Q S ms fl h s).1.gs.length ka6) := (hb26.cell (p := ⟨bF3, 0, none⟩) (by go_simp)).trans (by go_simp)
  have yb2_1_32 : w26.cell? ⟨bF3, 1, none⟩ = some (.slice VB6 (machR Q S ms fl h s).1.ts.length kb6) := (hb26.cell (p := ⟨bF3, 1, none⟩) (by go_simp)).trans (by go_simp)
  have yb2_2_32 : w26.cell? ⟨bF3, 2, none⟩ = some (.slice VC6 (machR Q S ms fl h s).1.xs.length kd6) := (hb26.cell (p := ⟨bF3, 2, none⟩) (by go_simp)).trans (by go_simp)
  have yb2_3_32 : w26.cell? ⟨bF3, 3, none⟩ = some (.int .i64 (machR Q S ms fl h s).1.t) := (hb26.cell (p := ⟨bF3, 3, none⟩) (by go_simp)).trans (by go_simp)
  have lb3_32 : w8.heap.size < w26.heap.size := Nat.lt_of_lt_of_le (by go_simp) hb26.size
  have yb3_0_32 : w26.cell? ⟨w8.heap.size, 0, none⟩ = some (.int .i64 Q) := (hb26.cell (p := ⟨w8.heap.size, 0, none⟩) (by go_simp)).trans (by go_simp)
  have yb3_1_32 : w26.cell? ⟨w8.heap.size, 1, none⟩ = some (.int .i64 S) := (hb26.cell (p := ⟨w8.heap.size, 1, none⟩) (by go_simp)).trans (by go_simp)
  have yb3_2_32 : w26.cell? ⟨w8.heap.size, 2, none⟩ = some (.slice A8 q q) := (hb26.cell (p := ⟨w8.heap.size, 2, none⟩) (by go_simp)).trans (by go_simp)
  have lb4_32 : w9.heap.size < w26.heap.size := Nat.lt_of_lt_of_le (by go_simp) hb26.size
  have yb4_0_32 : w26.cell? ⟨w9.heap.size, 0, none⟩ = some (.slice F9 nf nf) := (hb26.cell (p := ⟨w9.heap.size, 0, none⟩) (by go_simp)).trans (by go_simp)
  have yb4_1_32 : w26.cell? ⟨w9.heap.size, 1, none⟩ = some (.int .i64 h) := (hb26.cell (p := ⟨w9.heap.size, 1, none⟩) (by go_simp)).trans (by go_simp)
  have yb4_2_32 : w26.cell? ⟨w9.heap.size, 2, none⟩ = some (.int .i64 s) := (hb26.cell (p := ⟨w9.heap.size, 2, none⟩) (by go_simp)).trans (by go_simp)
  have lb5_32 : w10.heap.size < w26.heap.size := Nat.lt_of_lt_of_le (by go_simp) hb26.size
  have yb5_0_32 : w26.cell? ⟨w10.heap.size, 0, none⟩ = some (.slice VA10 (machR Q S ms fl h s).1.gs.length ka10) := (hb26.cell (p := ⟨w10.heap.size, 0, none⟩) (by go_simp)).trans (by go_simp)
  have yb5_1_32 : w26.cell? ⟨w10.heap.size, 1, none⟩ = some (.slice VB10 (machR Q S ms fl h s).1.ts.length kb10) := (hb26.cell (p := ⟨w10.heap.size, 1, none⟩) (by go_simp)).trans (by go_simp)
  have yb5_2_32 : w26.cell? ⟨w10.heap.size, 2, none⟩ = some (.slice VC10 (machR Q S ms fl h s).1.xs.length kd10) := (hb26.cell (p := ⟨w10.heap.size, 2, none⟩) (by go_simp)).trans (by go_simp)
  have yb5_3_32 : w26.cell? ⟨w10.heap.size, 3, none⟩ = some (.int .i64 (machR Q S ms fl h s).1.t) := (hb26.cell (p := ⟨w10.heap.size, 3, none⟩) (by go_simp)).trans (by go_simp)
  have lb6_32 : bF21 < w26.heap.size := Nat.lt_of_lt_of_le (by go_simp) hb26.size
  have yb6_0_32 : w26.cell? ⟨bF21, 0, none⟩ = some (.slice VA24 (machR Q S ms fl h s).1.gs.length ka24) := (hb26.cell (p := ⟨bF21, 0, none⟩) (by go_simp)).trans (by go_simp)
  have yb6_1_32 : w26.cell? ⟨bF21, 1, none⟩ = some (.slice VB24 (machR Q S ms fl h s).1.ts.length kb24) := (hb26.cell (p := ⟨bF21, 1, none⟩) (by go_simp)).trans (by go_simp)
  have yb6_2_32 : w26.cell? ⟨bF21, 2, none⟩ = some (.slice VC24 (machR Q S ms fl h s).1.xs.length kd24) := (hb26.cell (p := ⟨bF21, 2, none⟩) (by go_simp)).trans (by go_simp)
  have yb6_3_32 : w26.cell? ⟨bF21, 3, none⟩ = some (.int .i64 (machR Q S ms fl h s).1.t) := (hb26.cell (p := ⟨bF21, 3, none⟩) (by go_simp)).trans (by go_simp)
  have Mc19_32 := Lib.hid (MarkedSy.below (MarkedSy.below Mc19_31.out bk_ om_) hb26 om_)
  clear Mc19_31 yg21_3 yg21_2 yg21_1 yg21_0 lg21 yb5_3_31 yb5_2_31 yb5_1_31 yb5_0_31 lb5_31 yb4_2_31 yb4_1_31 yb4_0_31 lb4_31 yb3_2_31 yb3_1_31 yb3_0_31 lb3_31 yb2_3_31 yb2_2_31 yb2_1_31 yb2_0_31 lb2_31 yb1_2_31 yb1_1_31 yb1_0_31 lb1_31 yb0_2_31 yb0_1_31 yb0_0_31 lb0_31 krV21 krV3_31 kw_31 s32
  clear hb26
  go_wp2_with fail
  refine (heldSystem_r _ _ _ _ _ _ 1 _ _ _ _ _ (MarkedSy.below Mc19_32.out bk_ om_) om_ (by have := hRl.out.g; have := hRl.out.t; have := hRl.out.x; omega)).mono ?_
  rintro e w27 ⟨rfl, hb27⟩
  have s33 : w26.heap.size ≤ w27.heap.size := by have := hb27.size; (try simp at this); omega
  have s33H := Lib.hid s33
  have kw_33 : Below w.heap.size w w27 := bl_tr bk_ hb27
  have krV3_33 : Below w7.heap.size w7 w27 := bl_tr bk_ hb27
  have krV21_33 : Below w25.heap.size w25 w27 := bl_tr bk_ hb27
  have lb0_33 : w.heap.size < w27.heap.size := Nat.lt_of_lt_of_le (by go_simp) hb27.size
  have yb0_0_33 : w27.cell? ⟨w.heap.size, 0, none⟩ = some (.int .i64 Q) := (hb27.cell (p := ⟨w.heap.size, 0, none⟩) (by go_simp)).trans (by go_simp)
  have yb0_1_33 : w27.cell? ⟨w.heap.size, 1, none⟩ = some (.int .i64 S) := (hb27.cell (p := ⟨w.heap.size, 1, none⟩) (by go_simp)).trans (by go_simp)
  have yb0_2_33 : w27.cell? ⟨w.heap.size, 2, none⟩ = some (.slice A q ca) := (hb27.cell (p := ⟨w.heap.size, 2, none⟩) (by go_simp)).trans (by go_simp)
  have lb1_33 : w.heap.size + 1 < w27.heap.size := Nat.lt_of_lt_of_le (by go_simp) hb27.size
  have yb1_0_33 : w27.cell? ⟨w.heap.size + 1, 0, none⟩ = some (.slice F nf cf) := (hb27.cell (p := ⟨w.heap.size + 1, 0, none⟩) (by go_simp)).trans (by go_simp)
  have yb1_1_33 : w27.cell? ⟨w.heap.size + 1, 1, none⟩ = some (.int .i64 h) := (hb27.cell (p := ⟨w.heap.size + 1, 1, none⟩) (by go_simp)).trans (by go_simp)
  have yb1_2_33 : w27.cell? ⟨w.heap.size + 1, 2, none⟩ = some (.int .i64 s) := (hb27.cell (p := ⟨w.heap.size + 1, 2, none⟩) (by go_simp)).trans (by go_simp)
  have lb2_33 : bF3 < w27.heap.size := Nat.lt_of_lt_of_le (by go_simp) hb27.size
  have yb2_0_33 : w27.cell? ⟨bF3, 0, none⟩ = some (.slice VA6 (machR Q S ms fl h s).1.gs.length ka6) := (hb27.cell (p := ⟨bF3, 0, none⟩) (by go_simp)).trans (by go_simp)
  have yb2_1_33 : w27.cell? ⟨bF3, 1, none⟩ = some (.slice VB6 (machR Q S ms fl h s).1.ts.length kb6) := (hb27.cell (p := ⟨bF3, 1, none⟩) (by go_simp)).trans (by go_simp)
  have yb2_2_33 : w27.cell? ⟨bF3, 2, none⟩ = some (.slice VC6 (machR Q S ms fl h s).1.xs.length kd6) := (hb27.cell (p := ⟨bF3, 2, none⟩) (by go_simp)).trans (by go_simp)
  have yb2_3_33 : w27.cell? ⟨bF3, 3, none⟩ = some (.int .i64 (machR Q S ms fl h s).1.t) := (hb27.cell (p := ⟨bF3, 3, none⟩) (by go_simp)).trans (by go_simp)
  have lb3_33 : w8.heap.size < w27.heap.size := Nat.lt_of_lt_of_le (by go_simp) hb27.size
  have yb3_0_33 : w27.cell? ⟨w8.heap.size, 0, none⟩ = some (.int .i64 Q) := (hb27.cell (p := ⟨w8.heap.size, 0, none⟩) (by go_simp)).trans (by go_simp)
  have yb3_1_33 : w27.cell? ⟨w8.heap.size, 1, none⟩ = some (.int .i64 S) := (hb27.cell (p := ⟨w8.heap.size, 1, none⟩) (by go_simp)).trans (by go_simp)
  have yb3_2_33 : w27.cell? ⟨w8.heap.size, 2, none⟩ = some (.slice A8 q q) := (hb27.cell (p := ⟨w8.heap.size, 2, none⟩) (by go_simp)).trans (by go_simp)
  have lb4_33 : w9.heap.size < w27.heap.size := Nat.lt_of_lt_of_le (by go_simp) hb27.size
  have yb4_0_33 : w27.cell? ⟨w9.heap.size, 0, none⟩ = some (.slice F9 nf nf) := (hb27.cell (p := ⟨w9.heap.size, 0, none⟩) (by go_simp)).trans (by go_simp)
  have yb4_1_33 : w27.cell? ⟨w9.heap.size, 1, none⟩ = some (.int .i64 h) := (hb27.cell (p := ⟨w9.heap.size, 1, none⟩) (by go_simp)).trans (by go_simp)
  have yb4_2_33 : w27.cell? ⟨w9.heap.size, 2, none⟩ = some (.int .i64 s) := (hb27.cell (p := ⟨w9.heap.size, 2, none⟩) (by go_simp)).trans (by go_simp)
  have lb5_33 : w10.heap.size < w27.heap.size := Nat.lt_of_lt_of_le (by go_simp) hb27.size
  have yb5_0_33 : w27.cell? ⟨w10.heap.size, 0, none⟩ = some (.slice VA10 (machR Q S ms fl h s).1.gs.length ka10) := (hb27.cell (p := ⟨w10.heap.size, 0, none⟩) (by go_simp)).trans (by go_simp)
  have yb5_1_33 : w27.cell? ⟨w10.heap.size, 1, none⟩ = some (.slice VB10 (machR Q S ms fl h s).1.ts.length kb10) := (hb27.cell (p := ⟨w10.heap.size, 1, none⟩) (by go_simp)).trans (by go_simp)
  have yb5_2_33 : w27.cell? ⟨w10.heap.size, 2, none⟩ = some (.slice VC10 (machR Q S ms fl h s).1.xs.length kd10) := (hb27.cell (p := ⟨w10.heap.size, 2, none⟩) (by go_simp)).trans (by go_simp)
  have yb5_3_33 : w27.cell? ⟨w10.heap.size, 3, none⟩ = some (.int .i64 (machR Q S ms fl h s).1.t) := (hb27.cell (p := ⟨w10.heap.size, 3, none⟩) (by go_simp)).trans (by go_simp)
  have lb6_33 : bF21 < w27.heap.size := Nat.lt_of_lt_of_le (by go_simp) hb27.size
  have yb6_0_33 : w27.cell? ⟨bF21, 0, none⟩ = some (.slice VA24 (machR Q S ms fl h s).1.gs.length ka24) := (hb27.cell (p := ⟨bF21, 0, none⟩) (by go_simp)).trans (by go_simp)
  have yb6_1_33 : w27.cell? ⟨bF21, 1, none⟩ = some (.slice VB24 (machR Q S ms fl h s).1.ts.length kb24) := (hb27.cell (p := ⟨bF21, 1, none⟩) (by go_simp)).trans (by go_simp)
  have yb6_2_33 : w27.cell? ⟨bF21, 2, none⟩ = some (.slice VC24 (machR Q S ms fl h s).1.xs.length kd24) := (hb27.cell (p := ⟨bF21, 2, none⟩) (by go_simp)).trans (by go_simp)
  have yb6_3_33 : w27.cell? ⟨bF21, 3, none⟩ = some (.int .i64 (machR Q S ms fl h s).1.t) := (hb27.cell (p := ⟨bF21, 3, none⟩) (by go_simp)).trans (by go_simp)
  have Mc19_33 := Lib.hid (MarkedSy.below (MarkedSy.below Mc19_32.out bk_ om_) hb27 om_)
  clear Mc19_32 yb6_3_32 yb6_2_32 yb6_1_32 yb6_0_32 lb6_32 yb5_3_32 yb5_2_32 yb5_1_32 yb5_0_32 lb5_32 yb4_2_32 yb4_1_32 yb4_0_32 lb4_32 yb3_2_32 yb3_1_32 yb3_0_32 lb3_32 yb2_3_32 yb2_2_32 yb2_1_32 yb2_0_32 lb2_32 yb1_2_32 yb1_1_32 yb1_0_32 lb1_32 yb0_2_32 yb0_1_32 yb0_0_32 lb0_32 krV21_32 krV3_32 kw_32 s33
  clear hb27
  go_wp2_with fail
  go_ret
  exact ⟨rfl, bk_⟩
end Go.Proofs.YtkiamhpapkgboaaDoor
