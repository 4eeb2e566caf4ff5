/- Walk: the law FnExactSquareSystem. -/
import Derived.Test.YtpnahobgmemdjaaGreatDoorKR
import Derived.Test.YtpnahobgmemdjaaGreatDoorKU
import Derived.Test.YtpnahobgmemdjaaGreatDoorKX
import Derived.Test.YtpnahobgmemdjaaGreatDoorOrdFl
import Derived.Test.YtpnahobgmemdjaaGreatDoorKB
import Derived.Test.YtpnahobgmemdjaaGreatDoorKE
import Derived.Test.YtpnahobgmemdjaaGreatDoorW1
import Derived.Test.YtpnahobgmemdjaaGreatDoorBase2
import Derived.Test.YtpnahobgmemdjaaGreatDoorKH
namespace Go.Proofs.YtpnahobgmemdjaaGreatDoor
open Go.RowKit
set_option linter.unusedSimpArgs false
set_option linter.unusedVariables false
attribute [local go_sem] BelowBy.cell BelowBy.cell_drew stillUpon givesUpon BelowBy.cell_drew2 BelowBy.cell_drew3

set_option maxRecDepth 100000 in
set_option maxHeartbeats 4000000 in
theorem FnExactSquareSystem_any (side : Int) (w : World) (hT : Tab w) :
    Calls Tryz.prog 3 #[.int .i64 side] w fun e w' => e = .returned (.bool true) ∧ Below w.heap.size w w' := by
  have hTab := Lib.hid hT
  clear hT
  have hRl := Lib.hid (squareR_small side)
  go_enter Tryz.func3, Tryz.ntmps3
  have kw := bl_refl w
  go_wp2_with fail
  refine (sSquareSystem_any side _).mono ?_
  rintro e w1 ⟨VA1, VB1, VC1, ka1, kb1, kd1, us1, rfl, v1, hb1⟩
  have s1 : w.heap.size ≤ w1.heap.size := by have := hb1.size; (try simp at this); omega
  have s1H := Lib.hid s1
  have kw_1 : Below w.heap.size w w1 := bl_tr bk_ hb1
  clear kw s1
  clear hb1
  have kr1 : Below w1.heap.size w1 w1 := bl_refl _
  have v1H := Lib.hid v1
  clear v1
  go_wp2_with fail
  refine (SquareSystem_any side _ (hTab.out.below bk_)).mono ?_
  rintro e w2 ⟨VA2, VB2, VC2, ka2, kb2, kd2, us2, rfl, v2, hb2⟩
  have s2 : w1.heap.size + 1 ≤ w2.heap.size := by have := hb2.size; (try simp at this); omega
  have s2H := Lib.hid s2
  have kw_2 : Below w.heap.size w w2 := bl_tr bk_ hb2
  have kr1_2 : Below w1.heap.size w1 w2 := bl_tr bk_ hb2
  have lb0_2 : w1.heap.size < w2.heap.size := Nat.lt_of_lt_of_le (by go_simp) hb2.size
  have yb0_0_2 : w2.cell? ⟨w1.heap.size, 0, none⟩ = some (.slice VA1 (squareR side).1.gs.length ka1) := (hb2.cell (p := ⟨w1.heap.size, 0, none⟩) (by go_simp)).trans (by go_simp)
  have yb0_1_2 : w2.cell? ⟨w1.heap.size, 1, none⟩ = some (.slice VB1 (squareR side).1.ts.length kb1) := (hb2.cell (p := ⟨w1.heap.size, 1, none⟩) (by go_simp)).trans (by go_simp)
  have yb0_2_2 : w2.cell? ⟨w1.heap.size, 2, none⟩ = some (.slice VC1 (squareR side).1.xs.length kd1) := (hb2.cell (p := ⟨w1.heap.size, 2, none⟩) (by go_simp)).trans (by go_simp)
  have yb0_3_2 : w2.cell? ⟨w1.heap.size, 3, none⟩ = some (.int .i64 (squareR side).1.t) := (hb2.cell (p := ⟨w1.heap.size, 3, none⟩) (by go_simp)).trans (by go_simp)
  clear kr1 kw_1 s2
  clear hb2
  have kr2 : Below w2.heap.size w2 w2 := bl_refl _
  have v2H := Lib.hid v2
  clear v2
  go_wp2_with fail
  refine (eqSystem_r _ _ _ _ _ _ _ _ _ _ _ _ (squareR side).1 _ (OwnSy.rd (OwnSy.below v2H.out bk_)) (OwnSy.rd (OwnSy.below v1H.out bk_)) hRl.out).mono ?_
  rintro e w3 ⟨rfl, hb3⟩
  have s3 : w2.heap.size + 1 ≤ w3.heap.size := by have := hb3.size; (try simp at this); omega
  have s3H := Lib.hid s3
  have kw_3 : Below w.heap.size w w3 := bl_tr bk_ hb3
  have kr1_3 : Below w1.heap.size w1 w3 := bl_tr bk_ hb3
  have kr2_3 : Below w2.heap.size w2 w3 := bl_tr bk_ hb3
  have lb0_3 : w1.heap.size < w3.heap.size := Nat.lt_of_lt_of_le (by go_simp) hb3.size
  have yb0_0_3 : w3.cell? ⟨w1.heap.size, 0, none⟩ = some (.slice VA1 (squareR side).1.gs.length ka1) := (hb3.cell (p := ⟨w1.heap.size, 0, none⟩) (by go_simp)).trans (by go_simp)
  have yb0_1_3 : w3.cell? ⟨w1.heap.size, 1, none⟩ = some (.slice VB1 (squareR side).1.ts.length kb1) := (hb3.cell (p := ⟨w1.heap.size, 1, none⟩) (by go_simp)).trans (by go_simp)
  have yb0_2_3 : w3.cell? ⟨w1.heap.size, 2, none⟩ = some (.slice VC1 (squareR side).1.xs.length kd1) := (hb3.cell (p := ⟨w1.heap.size, 2, none⟩) (by go_simp)).trans (by go_simp)
  have yb0_3_3 : w3.cell? ⟨w1.heap.size, 3, none⟩ = some (.int .i64 (squareR side).1.t) := (hb3.cell (p := ⟨w1.heap.size, 3, none⟩) (by go_simp)).trans (by go_simp)
  have lb1_3 : w2.heap.size < w3.heap.size := Nat.lt_of_lt_of_le (by go_simp) hb3.size
  have yb1_0_3 : w3.cell? ⟨w2.heap.size, 0, none⟩ = some (.slice VA2 (squareR side).1.gs.length ka2) := (hb3.cell (p := ⟨w2.heap.size, 0, none⟩) (by go_simp)).trans (by go_simp)
  have yb1_1_3 : w3.cell? ⟨w2.heap.size, 1, none⟩ = some (.slice VB2 (squareR side).1.ts.length kb2) := (hb3.cell (p := ⟨w2.heap.size, 1, none⟩) (by go_simp)).trans (by go_simp)
  have yb1_2_3 : w3.cell? ⟨w2.heap.size, 2, none⟩ = some (.slice VC2 (squareR side).1.xs.length kd2) := (hb3.cell (p := ⟨w2.heap.size, 2, none⟩) (by go_simp)).trans (by go_simp)
  have yb1_3_3 : w3.cell? ⟨w2.heap.size, 3, none⟩ = some (.int .i64 (squareR side).1.t) := (hb3.cell (p := ⟨w2.heap.size, 3, none⟩) (by go_simp)).trans (by go_simp)
  clear yb0_3_2 yb0_2_2 yb0_1_2 yb0_0_2 lb0_2 kr2 kr1_2 kw_2 s3
  clear hb3
  go_wp2_with fail
  have sB0H := Lib.hid lb0_3
  have sB1H := Lib.hid lb1_3
  have OG2a := Lib.hid (OwnSy.rebase (lo' := (w1.heap.size + 1)) (OwnSy.below v2H.out kr2_3) om_)
  refine (markSystem_r _ _ _ _ _ _ 1 (w1.heap.size + 1) _ _ _ _ (OwnSy.below OG2a.out bk_) om_ (by have := hRl.out.g; have := hRl.out.t; have := hRl.out.x; omega)).mono ?_
  rintro e w4 ⟨rfl, hm4, mc4⟩
  clear OG2a
  have s4 : w3.heap.size ≤ w4.heap.size := by have := hm4.size; (try simp at this); omega
  have s4H := Lib.hid s4
  have kw_4 : Below w.heap.size w w4 := Below.trans bk_ (hm4.below.mono om_)
  have kr1_4 : Below w1.heap.size w1 w4 := Below.trans bk_ (hm4.below.mono om_)
  have lb0_4 : w1.heap.size < w4.heap.size := Nat.lt_of_lt_of_le (by go_simp) hm4.size
  have yb0_0_4 : w4.cell? ⟨w1.heap.size, 0, none⟩ = some (.slice VA1 (squareR side).1.gs.length ka1) := (hm4.below.cell (p := ⟨w1.heap.size, 0, none⟩) om_).trans (by go_simp)
  have yb0_1_4 : w4.cell? ⟨w1.heap.size, 1, none⟩ = some (.slice VB1 (squareR side).1.ts.length kb1) := (hm4.below.cell (p := ⟨w1.heap.size, 1, none⟩) om_).trans (by go_simp)
  have yb0_2_4 : w4.cell? ⟨w1.heap.size, 2, none⟩ = some (.slice VC1 (squareR side).1.xs.length kd1) := (hm4.below.cell (p := ⟨w1.heap.size, 2, none⟩) om_).trans (by go_simp)
  have yb0_3_4 : w4.cell? ⟨w1.heap.size, 3, none⟩ = some (.int .i64 (squareR side).1.t) := (hm4.below.cell (p := ⟨w1.heap.size, 3, none⟩) om_).trans (by go_simp)
  have lb1_4 : w2.heap.size < w4.heap.size := Nat.lt_of_lt_of_le (by go_simp) hm4.size
  have yb1_0_4 : w4.cell? ⟨w2.heap.size, 0, none⟩ = some (.slice VA2 (squareR side).1.gs.length ka2) := (World.cell?_of_block (a := ⟨w2.heap.size, 0, none⟩) (hm4.keep (w2.heap.size) om_ (by go_simp))).trans (by go_simp)
  have yb1_1_4 : w4.cell? ⟨w2.heap.size, 1, none⟩ = some (.slice VB2 (squareR side).1.ts.length kb2) := (World.cell?_of_block (a := ⟨w2.heap.size, 1, none⟩) (hm4.keep (w2.heap.size) om_ (by go_simp))).trans (by go_simp)
  have yb1_2_4 : w4.cell? ⟨w2.heap.size, 2, none⟩ = some (.slice VC2 (squareR side).1.xs.length kd2) := (World.cell?_of_block (a := ⟨w2.heap.size, 2, none⟩) (hm4.keep (w2.heap.size) om_ (by go_simp))).trans (by go_simp)
  have yb1_3_4 : w4.cell? ⟨w2.heap.size, 3, none⟩ = some (.int .i64 (squareR side).1.t) := (World.cell?_of_block (a := ⟨w2.heap.size, 3, none⟩) (hm4.keep (w2.heap.size) om_ (by go_simp))).trans (by go_simp)
  clear yb1_3_3 yb1_2_3 yb1_1_3 yb1_0_3 lb1_3 yb0_3_3 yb0_2_3 yb0_1_3 yb0_0_3 lb0_3 kr2_3 kr1_3 kw_3 s4
  have Mc4 := Lib.hid mc4
  clear mc4 hm4
  go_wp2_with fail
  refine (heldSystem_r _ _ _ _ _ _ 1 _ _ _ _ _ (MarkedSy.below Mc4.out bk_ om_) om_ (by have := hRl.out.g; have := hRl.out.t; have := hRl.out.x; omega)).mono ?_
  rintro e w5 ⟨rfl, hb5⟩
  have s5 : w4.heap.size ≤ w5.heap.size := by have := hb5.size; (try simp at this); omega
  have s5H := Lib.hid s5
  have kw_5 : Below w.heap.size w w5 := bl_tr bk_ hb5
  have kr1_5 : Below w1.heap.size w1 w5 := bl_tr bk_ hb5
  have lb0_5 : w1.heap.size < w5.heap.size := Nat.lt_of_lt_of_le (by go_simp) hb5.size
  have yb0_0_5 : w5.cell? ⟨w1.heap.size, 0, none⟩ = some (.slice VA1 (squareR side).1.gs.length ka1) := (hb5.cell (p := ⟨w1.heap.size, 0, none⟩) (by go_simp)).trans (by go_simp)
  have yb0_1_5 : w5.cell? ⟨w1.heap.size, 1, none⟩ = some (.slice VB1 (squareR side).1.ts.length kb1) := (hb5.cell (p := ⟨w1.heap.size, 1, none⟩) (by go_simp)).trans (by go_simp)
  have yb0_2_5 : w5.cell? ⟨w1.heap.size, 2, none⟩ = some (.slice VC1 (squareR side).1.xs.length kd1) := (hb5.cell (p := ⟨w1.heap.size, 2, none⟩) (by go_simp)).trans (by go_simp)
  have yb0_3_5 : w5.cell? ⟨w1.heap.size, 3, none⟩ = some (.int .i64 (squareR side).1.t) := (hb5.cell (p := ⟨w1.heap.size, 3, none⟩) (by go_simp)).trans (by go_simp)
  have lb1_5 : w2.heap.size < w5.heap.size := Nat.lt_of_lt_of_le (by go_simp) hb5.size
  have yb1_0_5 : w5.cell? ⟨w2.heap.size, 0, none⟩ = some (.slice VA2 (squareR side).1.gs.length ka2) := (hb5.cell (p := ⟨w2.heap.size, 0, none⟩) (by go_simp)).trans (by go_simp)
  have yb1_1_5 : w5.cell? ⟨w2.heap.size, 1, none⟩ = some (.slice VB2 (squareR side).1.ts.length kb2) := (hb5.cell (p := ⟨w2.heap.size, 1, none⟩) (by go_simp)).trans (by go_simp)
  have yb1_2_5 : w5.cell? ⟨w2.heap.size, 2, none⟩ = some (.slice VC2 (squareR side).1.xs.length kd2) := (hb5.cell (p := ⟨w2.heap.size, 2, none⟩) (by go_simp)).trans (by go_simp)
  have yb1_3_5 : w5.cell? ⟨w2.heap.size, 3, none⟩ = some (.int .i64 (squareR side).1.t) := (hb5.cell (p := ⟨w2.heap.size, 3, none⟩) (by go_simp)).trans (by go_simp)
  have Mc4_5 := Lib.hid (MarkedSy.below (MarkedSy.below Mc4.out bk_ om_) hb5 om_)
  clear Mc4 yb1_3_4 yb1_2_4 yb1_1_4 yb1_0_4 lb1_4 yb0_3_4 yb0_2_4 yb0_1_4 yb0_0_4 lb0_4 kr1_4 kw_4 s5
  clear hb5
  go_wp2_with fail
  refine (SquareSystem_any side _ (hTab.out.below bk_)).mono ?_
  rintro e w6 ⟨VA6, VB6, VC6, ka6, kb6, kd6, us6, rfl, v6, hb6⟩
  have s6 : w5.heap.size ≤ w6.heap.size := by have := hb6.size; (try simp at this); omega
  have s6H := Lib.hid s6
  have kw_6 : Below w.heap.size w w6 := bl_tr bk_ hb6
  have kr1_6 : Below w1.heap.size w1 w6 := bl_tr bk_ hb6
  have lb0_6 : w1.heap.size < w6.heap.size := Nat.lt_of_lt_of_le (by go_simp) hb6.size
  have yb0_0_6 : w6.cell? ⟨w1.heap.size, 0, none⟩ = some (.slice VA1 (squareR side).1.gs.length ka1) := (hb6.cell (p := ⟨w1.heap.size, 0, none⟩) (by go_simp)).trans (by go_simp)
  have yb0_1_6 : w6.cell? ⟨w1.heap.size, 1, none⟩ = some (.slice VB1 (squareR side).1.ts.length kb1) := (hb6.cell (p := ⟨w1.heap.size, 1, none⟩) (by go_simp)).trans (by go_simp)
  have yb0_2_6 : w6.cell? ⟨w1.heap.size, 2, none⟩ = some (.slice VC1 (squareR side).1.xs.length kd1) := (hb6.cell (p := ⟨w1.heap.size, 2, none⟩) (by go_simp)).trans (by go_simp)
  have yb0_3_6 : w6.cell? ⟨w1.heap.size, 3, none⟩ = some (.int .i64 (squareR side).1.t) := (hb6.cell (p := ⟨w1.heap.size, 3, none⟩) (by go_simp)).trans (by go_simp)
  have lb1_6 : w2.heap.size < w6.heap.size := Nat.lt_of_lt_of_le (by go_simp) hb6.size
  have yb1_0_6 : w6.cell? ⟨w2.heap.size, 0, none⟩ = some (.slice VA2 (squareR side).1.gs.length ka2) := (hb6.cell (p := ⟨w2.heap.size, 0, none⟩) (by go_simp)).trans (by go_simp)
  have yb1_1_6 : w6.cell? ⟨w2.heap.size, 1, none⟩ = some (.slice VB2 (squareR side).1.ts.length kb2) := (hb6.cell (p := ⟨w2.heap.size, 1, none⟩) (by go_simp)).trans (by go_simp)
  have yb1_2_6 : w6.cell? ⟨w2.heap.size, 2, none⟩ = some (.slice VC2 (squareR side).1.xs.length kd2) := (hb6.cell (p := ⟨w2.heap.size, 2, none⟩) (by go_simp)).trans (by go_simp)
  have yb1_3_6 : w6.cell? ⟨w2.heap.size, 3, none⟩ = some (.int .i64 (squareR side).1.t) := (hb6.cell (p := ⟨w2.heap.size, 3, none⟩) (by go_simp)).trans (by go_simp)
  have Mc4_6 := Lib.hid (MarkedSy.below (MarkedSy.below Mc4_5.out bk_ om_) hb6 om_)
  clear Mc4_5 yb1_3_5 yb1_2_5 yb1_1_5 yb1_0_5 lb1_5 yb0_3_5 yb0_2_5 yb0_1_5 yb0_0_5 lb0_5 kr1_5 kw_5 s6
  clear hb6
  have kr6 : Below w6.heap.size w6 w6 := bl_refl _
  have v6H := Lib.hid v6
  clear v6
  go_wp2_with fail
  refine (eqSystem_r _ _ _ _ _ _ _ _ _ _ _ _ (squareR side).1 _ (OwnSy.rd (OwnSy.below v6H.out bk_)) (OwnSy.rd (OwnSy.below v1H.out bk_)) hRl.out).mono ?_
  rintro e w7 ⟨rfl, hb7⟩
  have s7 : w6.heap.size + 1 ≤ w7.heap.size := by have := hb7.size; (try simp at this); omega
  have s7H := Lib.hid s7
  have kw_7 : Below w.heap.size w w7 := bl_tr bk_ hb7
  have kr1_7 : Below w1.heap.size w1 w7 := bl_tr bk_ hb7
  have kr6_7 : Below w6.heap.size w6 w7 := bl_tr bk_ hb7
  have lb0_7 : w1.heap.size < w7.heap.size := Nat.lt_of_lt_of_le (by go_simp) hb7.size
  have yb0_0_7 : w7.cell? ⟨w1.heap.size, 0, none⟩ = some (.slice VA1 (squareR side).1.gs.length ka1) := (hb7.cell (p := ⟨w1.heap.size, 0, none⟩) (by go_simp)).trans (by go_simp)
  have yb0_1_7 : w7.cell? ⟨w1.heap.size, 1, none⟩ = some (.slice VB1 (squareR side).1.ts.length kb1) := (hb7.cell (p := ⟨w1.heap.size, 1, none⟩) (by go_simp)).trans (by go_simp)
  have yb0_2_7 : w7.cell? ⟨w1.heap.size, 2, none⟩ = some (.slice VC1 (squareR side).1.xs.length kd1) := (hb7.cell (p := ⟨w1.heap.size, 2, none⟩) (by go_simp)).trans (by go_simp)
  have yb0_3_7 : w7.cell? ⟨w1.heap.size, 3, none⟩ = some (.int .i64 (squareR side).1.t) := (hb7.cell (p := ⟨w1.heap.size, 3, none⟩) (by go_simp)).trans (by go_simp)
  have lb1_7 : w2.heap.size < w7.heap.size := Nat.lt_of_lt_of_le (by go_simp) hb7.size
  have yb1_0_7 : w7.cell? ⟨w2.heap.size, 0, none⟩ = some (.slice VA2 (squareR side).1.gs.length ka2) := (hb7.cell (p := ⟨w2.heap.size, 0, none⟩) (by go_simp)).trans (by go_simp)
  have yb1_1_7 : w7.cell? ⟨w2.heap.size, 1, none⟩ = some (.slice VB2 (squareR side).1.ts.length kb2) := (hb7.cell (p := ⟨w2.heap.size, 1, none⟩) (by go_simp)).trans (by go_simp)
  have yb1_2_7 : w7.cell? ⟨w2.heap.size, 2, none⟩ = some (.slice VC2 (squareR side).1.xs.length kd2) := (hb7.cell (p := ⟨w2.heap.size, 2, none⟩) (by go_simp)).trans (by go_simp)
  have yb1_3_7 : w7.cell? ⟨w2.heap.size, 3, none⟩ = some (.int .i64 (squareR side).1.t) := (hb7.cell (p := ⟨w2.heap.size, 3, none⟩) (by go_simp)).trans (by go_simp)
  have lb2_7 : w6.heap.size < w7.heap.size := Nat.lt_of_lt_of_le (by go_simp) hb7.size
  have yb2_0_7 : w7.cell? ⟨w6.heap.size, 0, none⟩ = some (.slice VA6 (squareR side).1.gs.length ka6) := (hb7.cell (p := ⟨w6.heap.size, 0, none⟩) (by go_simp)).trans (by go_simp)
  have yb2_1_7 : w7.cell? ⟨w6.heap.size, 1, none⟩ = some (.slice VB6 (squareR side).1.ts.length kb6) := (hb7.cell (p := ⟨w6.heap.size, 1, none⟩) (by go_simp)).trans (by go_simp)
  have yb2_2_7 : w7.cell? ⟨w6.heap.size, 2, none⟩ = some (.slice VC6 (squareR side).1.xs.length kd6) := (hb7.cell (p := ⟨w6.heap.size, 2, none⟩) (by go_simp)).trans (by go_simp)
  have yb2_3_7 : w7.cell? ⟨w6.heap.size, 3, none⟩ = some (.int .i64 (squareR side).1.t) := (hb7.cell (p := ⟨w6.heap.size, 3, none⟩) (by go_simp)).trans (by go_simp)
  have Mc4_7 := Lib.hid (MarkedSy.below (MarkedSy.below Mc4_6.out bk_ om_) hb7 om_)
  clear Mc4_6 yb1_3_6 yb1_2_6 yb1_1_6 yb1_0_6 lb1_6 yb0_3_6 yb0_2_6 yb0_1_6 yb0_0_6 lb0_6 kr6 kr1_6 kw_6 s7
  clear hb7
  go_wp2_with fail
  refine (heldSystem_r _ _ _ _ _ _ 1 _ _ _ _ _ (MarkedSy.below Mc4_7.out bk_ om_) om_ (by have := hRl.out.g; have := hRl.out.t; have := hRl.out.x; omega)).mono ?_
  rintro e w8 ⟨rfl, hb8⟩
  have s8 : w7.heap.size ≤ w8.heap.size := by have := hb8.size; (try simp at this); omega
  have s8H := Lib.hid s8
  have kw_8 : Below w.heap.size w w8 := bl_tr bk_ hb8
  have kr1_8 : Below w1.heap.size w1 w8 := bl_tr bk_ hb8
  have kr6_8 : Below w6.heap.size w6 w8 := bl_tr bk_ hb8
  have lb0_8 : w1.heap.size < w8.heap.size := Nat.lt_of_lt_of_le (by go_simp) hb8.size
  have yb0_0_8 : w8.cell? ⟨w1.heap.size, 0, none⟩ = some (.slice VA1 (squareR side).1.gs.length ka1) := (hb8.cell (p := ⟨w1.heap.size, 0, none⟩) (by go_simp)).trans (by go_simp)
  have yb0_1_8 : w8.cell? ⟨w1.heap.size, 1, none⟩ = some (.slice VB1 (squareR side).1.ts.length kb1) := (hb8.cell (p := ⟨w1.heap.size, 1, none⟩) (by go_simp)).trans (by go_simp)
  have yb0_2_8 : w8.cell? ⟨w1.heap.size, 2, none⟩ = some (.slice VC1 (squareR side).1.xs.length kd1) := (hb8.cell (p := ⟨w1.heap.size, 2, none⟩) (by go_simp)).trans (by go_simp)
  have yb0_3_8 : w8.cell? ⟨w1.heap.size, 3, none⟩ = some (.int .i64 (squareR side).1.t) := (hb8.cell (p := ⟨w1.heap.size, 3, none⟩) (by go_simp)).trans (by go_simp)
  have lb1_8 : w2.heap.size < w8.heap.size := Nat.lt_of_lt_of_le (by go_simp) hb8.size
  have yb1_0_8 : w8.cell? ⟨w2.heap.size, 0, none⟩ = some (.slice VA2 (squareR side).1.gs.length ka2) := (hb8.cell (p := ⟨w2.heap.size, 0, none⟩) (by go_simp)).trans (by go_simp)
  have yb1_1_8 : w8.cell? ⟨w2.heap.size, 1, none⟩ = some (.slice VB2 (squareR side).1.ts.length kb2) := (hb8.cell (p := ⟨w2.heap.size, 1, none⟩) (by go_simp)).trans (by go_simp)
  have yb1_2_8 : w8.cell? ⟨w2.heap.size, 2, none⟩ = some (.slice VC2 (squareR side).1.xs.length kd2) := (hb8.cell (p := ⟨w2.heap.size, 2, none⟩) (by go_simp)).trans (by go_simp)
  have yb1_3_8 : w8.cell? ⟨w2.heap.size, 3, none⟩ = some (.int .i64 (squareR side).1.t) := (hb8.cell (p := ⟨w2.heap.size, 3, none⟩) (by go_simp)).trans (by go_simp)
  have lb2_8 : w6.heap.size < w8.heap.size := Nat.lt_of_lt_of_le (by go_simp) hb8.size
  have yb2_0_8 : w8.cell? ⟨w6.heap.size, 0, none⟩ = some (.slice VA6 (squareR side).1.gs.length ka6) := (hb8.cell (p := ⟨w6.heap.size, 0, none⟩) (by go_simp)).trans (by go_simp)
  have yb2_1_8 : w8.cell? ⟨w6.heap.size, 1, none⟩ = some (.slice VB6 (squareR side).1.ts.length kb6) := (hb8.cell (p := ⟨w6.heap.size, 1, none⟩) (by go_simp)).trans (by go_simp)
  have yb2_2_8 : w8.cell? ⟨w6.heap.size, 2, none⟩ = some (.slice VC6 (squareR side).1.xs.length kd6) := (hb8.cell (p := ⟨w6.heap.size, 2, none⟩) (by go_simp)).trans (by go_simp)
  have yb2_3_8 : w8.cell? ⟨w6.heap.size, 3, none⟩ = some (.int .i64 (squareR side).1.t) := (hb8.cell (p := ⟨w6.heap.size, 3, none⟩) (by go_simp)).trans (by go_simp)
  have Mc4_8 := Lib.hid (MarkedSy.below (MarkedSy.below Mc4_7.out bk_ om_) hb8 om_)
  clear Mc4_7 yb2_3_7 yb2_2_7 yb2_1_7 yb2_0_7 lb2_7 yb1_3_7 yb1_2_7 yb1_1_7 yb1_0_7 lb1_7 yb0_3_7 yb0_2_7 yb0_1_7 yb0_0_7 lb0_7 kr6_7 kr1_7 kw_7 s8
  clear hb8
  go_wp2_with fail
  go_ret
  exact ⟨rfl, bk_⟩
end Go.Proofs.YtpnahobgmemdjaaGreatDoor
