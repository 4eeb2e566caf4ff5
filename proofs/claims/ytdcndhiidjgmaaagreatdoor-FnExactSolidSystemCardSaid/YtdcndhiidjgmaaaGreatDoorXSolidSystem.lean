/- Walk: the law FnExactSolidSystem. -/
import Derived.Test.YtdcndhiidjgmaaaGreatDoorKI
import Derived.Test.YtdcndhiidjgmaaaGreatDoorHSysR
import Derived.Test.YtdcndhiidjgmaaaGreatDoorKG
import Derived.Test.YtdcndhiidjgmaaaGreatDoorKB
import Derived.Test.YtdcndhiidjgmaaaGreatDoorKJ
import Derived.Test.YtdcndhiidjgmaaaGreatDoorHEq
import Derived.Test.YtdcndhiidjgmaaaGreatDoorW1
import Derived.Test.YtdcndhiidjgmaaaGreatDoorBase2
import Derived.Test.YtdcndhiidjgmaaaGreatDoorKA
namespace Go.Proofs.YtdcndhiidjgmaaaGreatDoor
open Go.RowKit
set_option linter.unusedSimpArgs false
set_option linter.unusedVariables false
attribute [local go_sem] BelowBy.cell BelowBy.cell_drew stillUpon givesUpon BelowBy.cell_drew2 BelowBy.cell_drew3

set_option maxRecDepth 100000 in
set_option maxHeartbeats 4000000 in
theorem FnExactSolidSystem_any (F : Option Addr) (nf cf : Nat) (ps : List Pt) (root : Int) (w : World) (hT : Tab w) (hF : RdSl 2 RPt w F nf ps) (hlnf : nf ≤ 9223372036854775807)  :
    Calls Tryz.prog 4 #[.slice F nf cf, .int .i64 root] w fun e w' => e = .returned (.bool true) ∧ Below w.heap.size w w' := by
  have hTab := Lib.hid hT
  clear hT
  have hRl := Lib.hid (shapeS_small ps root true)
  go_enter Tryz.func4, Tryz.ntmps4
  have kw := bl_refl w
  go_wp2_with fail
  refine (szPointS_any _ _ _ _ _ (by omega) (by omega) hlnf).mono ?_
  rintro e w1 ⟨r1, rfl, (rfl | ⟨hr10, hr11, hznf⟩), hb1⟩
  · go_wp2
    go_ret
    exact ⟨rfl, bl_tr bk_ hb1⟩
  have s1 : w.heap.size ≤ w1.heap.size := by have := hb1.size; (try simp at this); omega
  have s1H := Lib.hid s1
  have kw_1 : Below w.heap.size w w1 := bl_tr bk_ hb1
  clear kw s1
  clear hb1
  go_wp2_with fail
  refine (toPointS_any _ _ _ ps _ (hF.below RPt.stable bk_) (by omega)).mono ?_
  rintro e w2 ⟨F2, rfl, o2, hb2⟩
  have s2 : w1.heap.size ≤ w2.heap.size := by have := hb2.size; (try simp at this); omega
  have s2H := Lib.hid s2
  have kw_2 : Below w.heap.size w w2 := bl_tr bk_ hb2
  clear kw_1 s2
  clear hb2
  have kc2 : Below w2.heap.size w2 w2 := bl_refl _
  have o2H := Lib.hid o2
  clear o2
  go_wp2_with fail
  refine (sSolidSystem_any _ _ _ ps root _ (o2H.out.rd.below RPt.stable bk_) (by omega)).mono ?_
  rintro e w3 ⟨VA3, VB3, VC3, ka3, kb3, kd3, us3, rfl, v3, hb3⟩
  have s3 : w2.heap.size ≤ w3.heap.size := by have := hb3.size; (try simp at this); omega
  have s3H := Lib.hid s3
  have kw_3 : Below w.heap.size w w3 := bl_tr bk_ hb3
  have kc2_3 : Below w2.heap.size w2 w3 := bl_tr bk_ hb3
  clear kc2 kw_2 s3
  clear hb3
  have kr3 : Below w3.heap.size w3 w3 := bl_refl _
  have v3H := Lib.hid v3
  clear v3
  go_wp2_with fail
  refine (toPointS_any _ _ _ ps _ (hF.below RPt.stable bk_) (by omega)).mono ?_
  rintro e w4 ⟨F4, rfl, o4, hb4⟩
  have s4 : w3.heap.size + 1 ≤ w4.heap.size := by have := hb4.size; (try simp at this); omega
  have s4H := Lib.hid s4
  have kw_4 : Below w.heap.size w w4 := bl_tr bk_ hb4
  have kc2_4 : Below w2.heap.size w2 w4 := bl_tr bk_ hb4
  have kr3_4 : Below w3.heap.size w3 w4 := bl_tr bk_ hb4
  have lb0_4 : w3.heap.size < w4.heap.size := Nat.lt_of_lt_of_le (by go_simp) hb4.size
  have yb0_0_4 : w4.cell? ⟨w3.heap.size, 0, none⟩ = some (.slice VA3 (shapeS ps root true).1.gs.length ka3) := (hb4.cell (p := ⟨w3.heap.size, 0, none⟩) (by go_simp)).trans (by go_simp)
  have yb0_1_4 : w4.cell? ⟨w3.heap.size, 1, none⟩ = some (.slice VB3 (shapeS ps root true).1.ts.length kb3) := (hb4.cell (p := ⟨w3.heap.size, 1, none⟩) (by go_simp)).trans (by go_simp)
  have yb0_2_4 : w4.cell? ⟨w3.heap.size, 2, none⟩ = some (.slice VC3 (shapeS ps root true).1.xs.length kd3) := (hb4.cell (p := ⟨w3.heap.size, 2, none⟩) (by go_simp)).trans (by go_simp)
  have yb0_3_4 : w4.cell? ⟨w3.heap.size, 3, none⟩ = some (.int .i64 (shapeS ps root true).1.t) := (hb4.cell (p := ⟨w3.heap.size, 3, none⟩) (by go_simp)).trans (by go_simp)
  clear kr3 kc2_3 kw_3 s4
  clear hb4
  have kc4 : Below w4.heap.size w4 w4 := bl_refl _
  have o4H := Lib.hid o4
  clear o4
  go_wp2_with fail
  refine (SolidSystem_any _ _ _ ps root _ (hTab.out.below bk_) (o4H.out.rd.below RPt.stable bk_) (by omega)).mono ?_
  rintro e w5 ⟨VA5, VB5, VC5, ka5, kb5, kd5, us5, rfl, v5, hb5⟩
  have s5 : w4.heap.size ≤ w5.heap.size := by have := hb5.size; (try simp at this); omega
  have s5H := Lib.hid s5
  have kw_5 : Below w.heap.size w w5 := bl_tr bk_ hb5
  have kc2_5 : Below w2.heap.size w2 w5 := bl_tr bk_ hb5
  have kr3_5 : Below w3.heap.size w3 w5 := bl_tr bk_ hb5
  have kc4_5 : Below w4.heap.size w4 w5 := bl_tr bk_ hb5
  have lb0_5 : w3.heap.size < w5.heap.size := Nat.lt_of_lt_of_le (by go_simp) hb5.size
  have yb0_0_5 : w5.cell? ⟨w3.heap.size, 0, none⟩ = some (.slice VA3 (shapeS ps root true).1.gs.length ka3) := (hb5.cell (p := ⟨w3.heap.size, 0, none⟩) (by go_simp)).trans (by go_simp)
  have yb0_1_5 : w5.cell? ⟨w3.heap.size, 1, none⟩ = some (.slice VB3 (shapeS ps root true).1.ts.length kb3) := (hb5.cell (p := ⟨w3.heap.size, 1, none⟩) (by go_simp)).trans (by go_simp)
  have yb0_2_5 : w5.cell? ⟨w3.heap.size, 2, none⟩ = some (.slice VC3 (shapeS ps root true).1.xs.length kd3) := (hb5.cell (p := ⟨w3.heap.size, 2, none⟩) (by go_simp)).trans (by go_simp)
  have yb0_3_5 : w5.cell? ⟨w3.heap.size, 3, none⟩ = some (.int .i64 (shapeS ps root true).1.t) := (hb5.cell (p := ⟨w3.heap.size, 3, none⟩) (by go_simp)).trans (by go_simp)
  clear yb0_3_4 yb0_2_4 yb0_1_4 yb0_0_4 lb0_4 kc4 kr3_4 kc2_4 kw_4 s5
  clear hb5
  have kr5 : Below w5.heap.size w5 w5 := bl_refl _
  have v5H := Lib.hid v5
  clear v5
  go_wp2_with fail
  refine (eqSystem_r _ _ _ _ _ _ _ _ _ _ _ _ (shapeS ps root true).1 _ (OwnSy.rd (OwnSy.below v5H.out bk_)) (OwnSy.rd (OwnSy.below v3H.out bk_)) hRl.out).mono ?_
  rintro e w6 ⟨rfl, hb6⟩
  have s6 : w5.heap.size + 1 ≤ w6.heap.size := by have := hb6.size; (try simp at this); omega
  have s6H := Lib.hid s6
  have kw_6 : Below w.heap.size w w6 := bl_tr bk_ hb6
  have kc2_6 : Below w2.heap.size w2 w6 := bl_tr bk_ hb6
  have kr3_6 : Below w3.heap.size w3 w6 := bl_tr bk_ hb6
  have kc4_6 : Below w4.heap.size w4 w6 := bl_tr bk_ hb6
  have kr5_6 : Below w5.heap.size w5 w6 := bl_tr bk_ hb6
  have lb0_6 : w3.heap.size < w6.heap.size := Nat.lt_of_lt_of_le (by go_simp) hb6.size
  have yb0_0_6 : w6.cell? ⟨w3.heap.size, 0, none⟩ = some (.slice VA3 (shapeS ps root true).1.gs.length ka3) := (hb6.cell (p := ⟨w3.heap.size, 0, none⟩) (by go_simp)).trans (by go_simp)
  have yb0_1_6 : w6.cell? ⟨w3.heap.size, 1, none⟩ = some (.slice VB3 (shapeS ps root true).1.ts.length kb3) := (hb6.cell (p := ⟨w3.heap.size, 1, none⟩) (by go_simp)).trans (by go_simp)
  have yb0_2_6 : w6.cell? ⟨w3.heap.size, 2, none⟩ = some (.slice VC3 (shapeS ps root true).1.xs.length kd3) := (hb6.cell (p := ⟨w3.heap.size, 2, none⟩) (by go_simp)).trans (by go_simp)
  have yb0_3_6 : w6.cell? ⟨w3.heap.size, 3, none⟩ = some (.int .i64 (shapeS ps root true).1.t) := (hb6.cell (p := ⟨w3.heap.size, 3, none⟩) (by go_simp)).trans (by go_simp)
  have lb1_6 : w5.heap.size < w6.heap.size := Nat.lt_of_lt_of_le (by go_simp) hb6.size
  have yb1_0_6 : w6.cell? ⟨w5.heap.size, 0, none⟩ = some (.slice VA5 (shapeS ps root true).1.gs.length ka5) := (hb6.cell (p := ⟨w5.heap.size, 0, none⟩) (by go_simp)).trans (by go_simp)
  have yb1_1_6 : w6.cell? ⟨w5.heap.size, 1, none⟩ = some (.slice VB5 (shapeS ps root true).1.ts.length kb5) := (hb6.cell (p := ⟨w5.heap.size, 1, none⟩) (by go_simp)).trans (by go_simp)
  have yb1_2_6 : w6.cell? ⟨w5.heap.size, 2, none⟩ = some (.slice VC5 (shapeS ps root true).1.xs.length kd5) := (hb6.cell (p := ⟨w5.heap.size, 2, none⟩) (by go_simp)).trans (by go_simp)
  have yb1_3_6 : w6.cell? ⟨w5.heap.size, 3, none⟩ = some (.int .i64 (shapeS ps root true).1.t) := (hb6.cell (p := ⟨w5.heap.size, 3, none⟩) (by go_simp)).trans (by go_simp)
  clear yb0_3_5 yb0_2_5 yb0_1_5 yb0_0_5 lb0_5 kr5 kc4_5 kr3_5 kc2_5 kw_5 s6
  clear hb6
  go_wp2_with fail
  refine (toPointS_any _ _ _ ps _ (hF.below RPt.stable bk_) (by omega)).mono ?_
  rintro e w7 ⟨F7, rfl, o7, hb7⟩
  have s7 : w6.heap.size ≤ w7.heap.size := by have := hb7.size; (try simp at this); omega
  have s7H := Lib.hid s7
  have kw_7 : Below w.heap.size w w7 := bl_tr bk_ hb7
  have kc2_7 : Below w2.heap.size w2 w7 := bl_tr bk_ hb7
  have kr3_7 : Below w3.heap.size w3 w7 := bl_tr bk_ hb7
  have kc4_7 : Below w4.heap.size w4 w7 := bl_tr bk_ hb7
  have kr5_7 : Below w5.heap.size w5 w7 := bl_tr bk_ hb7
  have lb0_7 : w3.heap.size < w7.heap.size := Nat.lt_of_lt_of_le (by go_simp) hb7.size
  have yb0_0_7 : w7.cell? ⟨w3.heap.size, 0, none⟩ = some (.slice VA3 (shapeS ps root true).1.gs.length ka3) := (hb7.cell (p := ⟨w3.heap.size, 0, none⟩) (by go_simp)).trans (by go_simp)
  have yb0_1_7 : w7.cell? ⟨w3.heap.size, 1, none⟩ = some (.slice VB3 (shapeS ps root true).1.ts.length kb3) := (hb7.cell (p := ⟨w3.heap.size, 1, none⟩) (by go_simp)).trans (by go_simp)
  have yb0_2_7 : w7.cell? ⟨w3.heap.size, 2, none⟩ = some (.slice VC3 (shapeS ps root true).1.xs.length kd3) := (hb7.cell (p := ⟨w3.heap.size, 2, none⟩) (by go_simp)).trans (by go_simp)
  have yb0_3_7 : w7.cell? ⟨w3.heap.size, 3, none⟩ = some (.int .i64 (shapeS ps root true).1.t) := (hb7.cell (p := ⟨w3.heap.size, 3, none⟩) (by go_simp)).trans (by go_simp)
  have lb1_7 : w5.heap.size < w7.heap.size := Nat.lt_of_lt_of_le (by go_simp) hb7.size
  have yb1_0_7 : w7.cell? ⟨w5.heap.size, 0, none⟩ = some (.slice VA5 (shapeS ps root true).1.gs.length ka5) := (hb7.cell (p := ⟨w5.heap.size, 0, none⟩) (by go_simp)).trans (by go_simp)
  have yb1_1_7 : w7.cell? ⟨w5.heap.size, 1, none⟩ = some (.slice VB5 (shapeS ps root true).1.ts.length kb5) := (hb7.cell (p := ⟨w5.heap.size, 1, none⟩) (by go_simp)).trans (by go_simp)
  have yb1_2_7 : w7.cell? ⟨w5.heap.size, 2, none⟩ = some (.slice VC5 (shapeS ps root true).1.xs.length kd5) := (hb7.cell (p := ⟨w5.heap.size, 2, none⟩) (by go_simp)).trans (by go_simp)
  have yb1_3_7 : w7.cell? ⟨w5.heap.size, 3, none⟩ = some (.int .i64 (shapeS ps root true).1.t) := (hb7.cell (p := ⟨w5.heap.size, 3, none⟩) (by go_simp)).trans (by go_simp)
  clear yb1_3_6 yb1_2_6 yb1_1_6 yb1_0_6 lb1_6 yb0_3_6 yb0_2_6 yb0_1_6 yb0_0_6 lb0_6 kr5_6 kc4_6 kr3_6 kc2_6 kw_6 s7
  clear hb7
  have kc7 : Below w7.heap.size w7 w7 := bl_refl _
  have o7H := Lib.hid o7
  clear o7
  go_wp2_with fail
  refine (eqPointS_same _ _ _ _ _ ps _ (o4H.out.rd.below RPt.stable bk_) (o7H.out.rd.below RPt.stable bk_) (by omega)).mono ?_
  rintro e w8 ⟨rfl, hb8⟩
  have s8 : w7.heap.size ≤ w8.heap.size := by have := hb8.size; (try simp at this); omega
  have s8H := Lib.hid s8
  have kw_8 : Below w.heap.size w w8 := bl_tr bk_ hb8
  have kc2_8 : Below w2.heap.size w2 w8 := bl_tr bk_ hb8
  have kr3_8 : Below w3.heap.size w3 w8 := bl_tr bk_ hb8
  have kc4_8 : Below w4.heap.size w4 w8 := bl_tr bk_ hb8
  have kr5_8 : Below w5.heap.size w5 w8 := bl_tr bk_ hb8
  have kc7_8 : Below w7.heap.size w7 w8 := bl_tr bk_ hb8
  have lb0_8 : w3.heap.size < w8.heap.size := Nat.lt_of_lt_of_le (by go_simp) hb8.size
  have yb0_0_8 : w8.cell? ⟨w3.heap.size, 0, none⟩ = some (.slice VA3 (shapeS ps root true).1.gs.length ka3) := (hb8.cell (p := ⟨w3.heap.size, 0, none⟩) (by go_simp)).trans (by go_simp)
  have yb0_1_8 : w8.cell? ⟨w3.heap.size, 1, none⟩ = some (.slice VB3 (shapeS ps root true).1.ts.length kb3) := (hb8.cell (p := ⟨w3.heap.size, 1, none⟩) (by go_simp)).trans (by go_simp)
  have yb0_2_8 : w8.cell? ⟨w3.heap.size, 2, none⟩ = some (.slice VC3 (shapeS ps root true).1.xs.length kd3) := (hb8.cell (p := ⟨w3.heap.size, 2, none⟩) (by go_simp)).trans (by go_simp)
  have yb0_3_8 : w8.cell? ⟨w3.heap.size, 3, none⟩ = some (.int .i64 (shapeS ps root true).1.t) := (hb8.cell (p := ⟨w3.heap.size, 3, none⟩) (by go_simp)).trans (by go_simp)
  have lb1_8 : w5.heap.size < w8.heap.size := Nat.lt_of_lt_of_le (by go_simp) hb8.size
  have yb1_0_8 : w8.cell? ⟨w5.heap.size, 0, none⟩ = some (.slice VA5 (shapeS ps root true).1.gs.length ka5) := (hb8.cell (p := ⟨w5.heap.size, 0, none⟩) (by go_simp)).trans (by go_simp)
  have yb1_1_8 : w8.cell? ⟨w5.heap.size, 1, none⟩ = some (.slice VB5 (shapeS ps root true).1.ts.length kb5) := (hb8.cell (p := ⟨w5.heap.size, 1, none⟩) (by go_simp)).trans (by go_simp)
  have yb1_2_8 : w8.cell? ⟨w5.heap.size, 2, none⟩ = some (.slice VC5 (shapeS ps root true).1.xs.length kd5) := (hb8.cell (p := ⟨w5.heap.size, 2, none⟩) (by go_simp)).trans (by go_simp)
  have yb1_3_8 : w8.cell? ⟨w5.heap.size, 3, none⟩ = some (.int .i64 (shapeS ps root true).1.t) := (hb8.cell (p := ⟨w5.heap.size, 3, none⟩) (by go_simp)).trans (by go_simp)
  clear yb1_3_7 yb1_2_7 yb1_1_7 yb1_0_7 lb1_7 yb0_3_7 yb0_2_7 yb0_1_7 yb0_0_7 lb0_7 kc7 kr5_7 kc4_7 kr3_7 kc2_7 kw_7 s8
  clear hb8
  go_wp2_with fail
  have sB0H := Lib.hid lb0_8
  have sB1H := Lib.hid lb1_8
  have MF4 := Lib.hid (((o4H.out.mk_).lo_ (lo' := (w3.heap.size + 1)) om_).below kc4_8 (Nat.le_refl _))
  have OG5a := Lib.hid (OwnSy.rebase (lo' := (w4.heap.size)) (OwnSy.below v5H.out kr5_8) om_)
  refine (markPointS_any2 _ nf _ 1 (w3.heap.size + 1) w4.heap.size _ (MkRow.below MF4.out bk_ om_) om_ om_ (by omega)).mono ?_
  rintro e w9 ⟨r9, rfl, hr91, hr92, hm9⟩
  clear MF4
  have s9 : w8.heap.size ≤ w9.heap.size := by have := hm9.size; (try simp at this); omega
  have s9H := Lib.hid s9
  have kw_9 : Below w.heap.size w w9 := Below.trans bk_ (hm9.below.mono om_)
  have kc2_9 : Below w2.heap.size w2 w9 := Below.trans bk_ (hm9.below.mono om_)
  have kr3_9 : Below w3.heap.size w3 w9 := Below.trans bk_ (hm9.below.mono om_)
  have lb0_9 : w3.heap.size < w9.heap.size := Nat.lt_of_lt_of_le (by go_simp) hm9.size
  have yb0_0_9 : w9.cell? ⟨w3.heap.size, 0, none⟩ = some (.slice VA3 (shapeS ps root true).1.gs.length ka3) := (hm9.below.cell (p := ⟨w3.heap.size, 0, none⟩) om_).trans (by go_simp)
  have yb0_1_9 : w9.cell? ⟨w3.heap.size, 1, none⟩ = some (.slice VB3 (shapeS ps root true).1.ts.length kb3) := (hm9.below.cell (p := ⟨w3.heap.size, 1, none⟩) om_).trans (by go_simp)
  have yb0_2_9 : w9.cell? ⟨w3.heap.size, 2, none⟩ = some (.slice VC3 (shapeS ps root true).1.xs.length kd3) := (hm9.below.cell (p := ⟨w3.heap.size, 2, none⟩) om_).trans (by go_simp)
  have yb0_3_9 : w9.cell? ⟨w3.heap.size, 3, none⟩ = some (.int .i64 (shapeS ps root true).1.t) := (hm9.below.cell (p := ⟨w3.heap.size, 3, none⟩) om_).trans (by go_simp)
  have lb1_9 : w5.heap.size < w9.heap.size := Nat.lt_of_lt_of_le (by go_simp) hm9.size
  have yb1_0_9 : w9.cell? ⟨w5.heap.size, 0, none⟩ = some (.slice VA5 (shapeS ps root true).1.gs.length ka5) := (World.cell?_of_block (a := ⟨w5.heap.size, 0, none⟩) (hm9.keep (w5.heap.size) om_ (by go_simp))).trans (by go_simp)
  have yb1_1_9 : w9.cell? ⟨w5.heap.size, 1, none⟩ = some (.slice VB5 (shapeS ps root true).1.ts.length kb5) := (World.cell?_of_block (a := ⟨w5.heap.size, 1, none⟩) (hm9.keep (w5.heap.size) om_ (by go_simp))).trans (by go_simp)
  have yb1_2_9 : w9.cell? ⟨w5.heap.size, 2, none⟩ = some (.slice VC5 (shapeS ps root true).1.xs.length kd5) := (World.cell?_of_block (a := ⟨w5.heap.size, 2, none⟩) (hm9.keep (w5.heap.size) om_ (by go_simp))).trans (by go_simp)
  have yb1_3_9 : w9.cell? ⟨w5.heap.size, 3, none⟩ = some (.int .i64 (shapeS ps root true).1.t) := (World.cell?_of_block (a := ⟨w5.heap.size, 3, none⟩) (hm9.keep (w5.heap.size) om_ (by go_simp))).trans (by go_simp)
  have OG5a_9 := Lib.hid (OwnSy.mkd (OwnSy.below OG5a.out bk_) hm9 om_)
  clear OG5a yb1_3_8 yb1_2_8 yb1_1_8 yb1_0_8 lb1_8 yb0_3_8 yb0_2_8 yb0_1_8 yb0_0_8 lb0_8 kc7_8 kr5_8 kc4_8 kr3_8 kc2_8 kw_8 s9
  clear hm9
  go_wp2_with fail
  refine (eqSystem_r _ _ _ _ _ _ _ _ _ _ _ _ (shapeS ps root true).1 _ (OwnSy.rd (OwnSy.below OG5a_9.out bk_)) (OwnSy.rd (OwnSy.below v3H.out bk_)) hRl.out).mono ?_
  rintro e w10 ⟨rfl, hb10⟩
  have s10 : w9.heap.size ≤ w10.heap.size := by have := hb10.size; (try simp at this); omega
  have s10H := Lib.hid s10
  have kw_10 : Below w.heap.size w w10 := bl_tr bk_ hb10
  have kc2_10 : Below w2.heap.size w2 w10 := bl_tr bk_ hb10
  have kr3_10 : Below w3.heap.size w3 w10 := bl_tr bk_ hb10
  have lb0_10 : w3.heap.size < w10.heap.size := Nat.lt_of_lt_of_le (by go_simp) hb10.size
  have yb0_0_10 : w10.cell? ⟨w3.heap.size, 0, none⟩ = some (.slice VA3 (shapeS ps root true).1.gs.length ka3) := (hb10.cell (p := ⟨w3.heap.size, 0, none⟩) (by go_simp)).trans (by go_simp)
  have yb0_1_10 : w10.cell? ⟨w3.heap.size, 1, none⟩ = some (.slice VB3 (shapeS ps root true).1.ts.length kb3) := (hb10.cell (p := ⟨w3.heap.size, 1, none⟩) (by go_simp)).trans (by go_simp)
  have yb0_2_10 : w10.cell? ⟨w3.heap.size, 2, none⟩ = some (.slice VC3 (shapeS ps root true).1.xs.length kd3) := (hb10.cell (p := ⟨w3.heap.size, 2, none⟩) (by go_simp)).trans (by go_simp)
  have yb0_3_10 : w10.cell? ⟨w3.heap.size, 3, none⟩ = some (.int .i64 (shapeS ps root true).1.t) := (hb10.cell (p := ⟨w3.heap.size, 3, none⟩) (by go_simp)).trans (by go_simp)
  have lb1_10 : w5.heap.size < w10.heap.size := Nat.lt_of_lt_of_le (by go_simp) hb10.size
  have yb1_0_10 : w10.cell? ⟨w5.heap.size, 0, none⟩ = some (.slice VA5 (shapeS ps root true).1.gs.length ka5) := (hb10.cell (p := ⟨w5.heap.size, 0, none⟩) (by go_simp)).trans (by go_simp)
  have yb1_1_10 : w10.cell? ⟨w5.heap.size, 1, none⟩ = some (.slice VB5 (shapeS ps root true).1.ts.length kb5) := (hb10.cell (p := ⟨w5.heap.size, 1, none⟩) (by go_simp)).trans (by go_simp)
  have yb1_2_10 : w10.cell? ⟨w5.heap.size, 2, none⟩ = some (.slice VC5 (shapeS ps root true).1.xs.length kd5) := (hb10.cell (p := ⟨w5.heap.size, 2, none⟩) (by go_simp)).trans (by go_simp)
  have yb1_3_10 : w10.cell? ⟨w5.heap.size, 3, none⟩ = some (.int .i64 (shapeS ps root true).1.t) := (hb10.cell (p := ⟨w5.heap.size, 3, none⟩) (by go_simp)).trans (by go_simp)
  have OG5a_10 := Lib.hid (OwnSy.below (OwnSy.below OG5a_9.out bk_) hb10)
  clear OG5a_9 yb1_3_9 yb1_2_9 yb1_1_9 yb1_0_9 lb1_9 yb0_3_9 yb0_2_9 yb0_1_9 yb0_0_9 lb0_9 kr3_9 kc2_9 kw_9 s10
  clear hb10
  go_wp2_with fail
  refine (markSystem_r _ _ _ _ _ _ 1 (w4.heap.size) _ _ _ _ (OwnSy.below OG5a_10.out bk_) om_ (by have := hRl.out.g; have := hRl.out.t; have := hRl.out.x; omega)).mono ?_
  rintro e w11 ⟨rfl, hm11, mc11⟩
  clear OG5a_10
  have s11 : w10.heap.size ≤ w11.heap.size := by have := hm11.size; (try simp at this); omega
  have s11H := Lib.hid s11
  have kw_11 : Below w.heap.size w w11 := Below.trans bk_ (hm11.below.mono om_)
  have kc2_11 : Below w2.heap.size w2 w11 := Below.trans bk_ (hm11.below.mono om_)
  have kr3_11 : Below w3.heap.size w3 w11 := Below.trans bk_ (hm11.below.mono om_)
  have lb0_11 : w3.heap.size < w11.heap.size := Nat.lt_of_lt_of_le (by go_simp) hm11.size
  have yb0_0_11 : w11.cell? ⟨w3.heap.size, 0, none⟩ = some (.slice VA3 (shapeS ps root true).1.gs.length ka3) := (hm11.below.cell (p := ⟨w3.heap.size, 0, none⟩) om_).trans (by go_simp)
  have yb0_1_11 : w11.cell? ⟨w3.heap.size, 1, none⟩ = some (.slice VB3 (shapeS ps root true).1.ts.length kb3) := (hm11.below.cell (p := ⟨w3.heap.size, 1, none⟩) om_).trans (by go_simp)
  have yb0_2_11 : w11.cell? ⟨w3.heap.size, 2, none⟩ = some (.slice VC3 (shapeS ps root true).1.xs.length kd3) := (hm11.below.cell (p := ⟨w3.heap.size, 2, none⟩) om_).trans (by go_simp)
  have yb0_3_11 : w11.cell? ⟨w3.heap.size, 3, none⟩ = some (.int .i64 (shapeS ps root true).1.t) := (hm11.below.cell (p := ⟨w3.heap.size, 3, none⟩) om_).trans (by go_simp)
  have lb1_11 : w5.heap.size < w11.heap.size := Nat.lt_of_lt_of_le (by go_simp) hm11.size
  have yb1_0_11 : w11.cell? ⟨w5.heap.size, 0, none⟩ = some (.slice VA5 (shapeS ps root true).1.gs.length ka5) := (World.cell?_of_block (a := ⟨w5.heap.size, 0, none⟩) (hm11.keep (w5.heap.size) om_ (by go_simp))).trans (by go_simp)
  have yb1_1_11 : w11.cell? ⟨w5.heap.size, 1, none⟩ = some (.slice VB5 (shapeS ps root true).1.ts.length kb5) := (World.cell?_of_block (a := ⟨w5.heap.size, 1, none⟩) (hm11.keep (w5.heap.size) om_ (by go_simp))).trans (by go_simp)
  have yb1_2_11 : w11.cell? ⟨w5.heap.size, 2, none⟩ = some (.slice VC5 (shapeS ps root true).1.xs.length kd5) := (World.cell?_of_block (a := ⟨w5.heap.size, 2, none⟩) (hm11.keep (w5.heap.size) om_ (by go_simp))).trans (by go_simp)
  have yb1_3_11 : w11.cell? ⟨w5.heap.size, 3, none⟩ = some (.int .i64 (shapeS ps root true).1.t) := (World.cell?_of_block (a := ⟨w5.heap.size, 3, none⟩) (hm11.keep (w5.heap.size) om_ (by go_simp))).trans (by go_simp)
  clear yb1_3_10 yb1_2_10 yb1_1_10 yb1_0_10 lb1_10 yb0_3_10 yb0_2_10 yb0_1_10 yb0_0_10 lb0_10 kr3_10 kc2_10 kw_10 s11
  have Mc11 := Lib.hid mc11
  clear mc11 hm11
  go_wp2_with fail
  refine (heldSystem_r _ _ _ _ _ _ 1 _ _ _ _ _ (MarkedSy.below Mc11.out bk_ om_) om_ (by have := hRl.out.g; have := hRl.out.t; have := hRl.out.x; omega)).mono ?_
  rintro e w12 ⟨rfl, hb12⟩
  have s12 : w11.heap.size ≤ w12.heap.size := by have := hb12.size; (try simp at this); omega
  have s12H := Lib.hid s12
  have kw_12 : Below w.heap.size w w12 := bl_tr bk_ hb12
  have kc2_12 : Below w2.heap.size w2 w12 := bl_tr bk_ hb12
  have kr3_12 : Below w3.heap.size w3 w12 := bl_tr bk_ hb12
  have lb0_12 : w3.heap.size < w12.heap.size := Nat.lt_of_lt_of_le (by go_simp) hb12.size
  have yb0_0_12 : w12.cell? ⟨w3.heap.size, 0, none⟩ = some (.slice VA3 (shapeS ps root true).1.gs.length ka3) := (hb12.cell (p := ⟨w3.heap.size, 0, none⟩) (by go_simp)).trans (by go_simp)
  have yb0_1_12 : w12.cell? ⟨w3.heap.size, 1, none⟩ = some (.slice VB3 (shapeS ps root true).1.ts.length kb3) := (hb12.cell (p := ⟨w3.heap.size, 1, none⟩) (by go_simp)).trans (by go_simp)
  have yb0_2_12 : w12.cell? ⟨w3.heap.size, 2, none⟩ = some (.slice VC3 (shapeS ps root true).1.xs.length kd3) := (hb12.cell (p := ⟨w3.heap.size, 2, none⟩) (by go_simp)).trans (by go_simp)
  have yb0_3_12 : w12.cell? ⟨w3.heap.size, 3, none⟩ = some (.int .i64 (shapeS ps root true).1.t) := (hb12.cell (p := ⟨w3.heap.size, 3, none⟩) (by go_simp)).trans (by go_simp)
  have lb1_12 : w5.heap.size < w12.heap.size := Nat.lt_of_lt_of_le (by go_simp) hb12.size
  have yb1_0_12 : w12.cell? ⟨w5.heap.size, 0, none⟩ = some (.slice VA5 (shapeS ps root true).1.gs.length ka5) := (hb12.cell (p := ⟨w5.heap.size, 0, none⟩) (by go_simp)).trans (by go_simp)
  have yb1_1_12 : w12.cell? ⟨w5.heap.size, 1, none⟩ = some (.slice VB5 (shapeS ps root true).1.ts.length kb5) := (hb12.cell (p := ⟨w5.heap.size, 1, none⟩) (by go_simp)).trans (by go_simp)
  have yb1_2_12 : w12.cell? ⟨w5.heap.size, 2, none⟩ = some (.slice VC5 (shapeS ps root true).1.xs.length kd5) := (hb12.cell (p := ⟨w5.heap.size, 2, none⟩) (by go_simp)).trans (by go_simp)
  have yb1_3_12 : w12.cell? ⟨w5.heap.size, 3, none⟩ = some (.int .i64 (shapeS ps root true).1.t) := (hb12.cell (p := ⟨w5.heap.size, 3, none⟩) (by go_simp)).trans (by go_simp)
  have Mc11_12 := Lib.hid (MarkedSy.below (MarkedSy.below Mc11.out bk_ om_) hb12 om_)
  clear Mc11 yb1_3_11 yb1_2_11 yb1_1_11 yb1_0_11 lb1_11 yb0_3_11 yb0_2_11 yb0_1_11 yb0_0_11 lb0_11 kr3_11 kc2_11 kw_11 s12
  clear hb12
  go_wp2_with fail
  refine (toPointS_any _ _ _ ps _ (hF.below RPt.stable bk_) (by omega)).mono ?_
  rintro e w13 ⟨F13, rfl, o13, hb13⟩
  have s13 : w12.heap.size ≤ w13.heap.size := by have := hb13.size; (try simp at this); omega
  have s13H := Lib.hid s13
  have kw_13 : Below w.heap.size w w13 := bl_tr bk_ hb13
  have kc2_13 : Below w2.heap.size w2 w13 := bl_tr bk_ hb13
  have kr3_13 : Below w3.heap.size w3 w13 := bl_tr bk_ hb13
  have lb0_13 : w3.heap.size < w13.heap.size := Nat.lt_of_lt_of_le (by go_simp) hb13.size
  have yb0_0_13 : w13.cell? ⟨w3.heap.size, 0, none⟩ = some (.slice VA3 (shapeS ps root true).1.gs.length ka3) := (hb13.cell (p := ⟨w3.heap.size, 0, none⟩) (by go_simp)).trans (by go_simp)
  have yb0_1_13 : w13.cell? ⟨w3.heap.size, 1, none⟩ = some (.slice VB3 (shapeS ps root true).1.ts.length kb3) := (hb13.cell (p := ⟨w3.heap.size, 1, none⟩) (by go_simp)).trans (by go_simp)
  have yb0_2_13 : w13.cell? ⟨w3.heap.size, 2, none⟩ = some (.slice VC3 (shapeS ps root true).1.xs.length kd3) := (hb13.cell (p := ⟨w3.heap.size, 2, none⟩) (by go_simp)).trans (by go_simp)
  have yb0_3_13 : w13.cell? ⟨w3.heap.size, 3, none⟩ = some (.int .i64 (shapeS ps root true).1.t) := (hb13.cell (p := ⟨w3.heap.size, 3, none⟩) (by go_simp)).trans (by go_simp)
  have lb1_13 : w5.heap.size < w13.heap.size := Nat.lt_of_lt_of_le (by go_simp) hb13.size
  have yb1_0_13 : w13.cell? ⟨w5.heap.size, 0, none⟩ = some (.slice VA5 (shapeS ps root true).1.gs.length ka5) := (hb13.cell (p := ⟨w5.heap.size, 0, none⟩) (by go_simp)).trans (by go_simp)
  have yb1_1_13 : w13.cell? ⟨w5.heap.size, 1, none⟩ = some (.slice VB5 (shapeS ps root true).1.ts.length kb5) := (hb13.cell (p := ⟨w5.heap.size, 1, none⟩) (by go_simp)).trans (by go_simp)
  have yb1_2_13 : w13.cell? ⟨w5.heap.size, 2, none⟩ = some (.slice VC5 (shapeS ps root true).1.xs.length kd5) := (hb13.cell (p := ⟨w5.heap.size, 2, none⟩) (by go_simp)).trans (by go_simp)
  have yb1_3_13 : w13.cell? ⟨w5.heap.size, 3, none⟩ = some (.int .i64 (shapeS ps root true).1.t) := (hb13.cell (p := ⟨w5.heap.size, 3, none⟩) (by go_simp)).trans (by go_simp)
  have Mc11_13 := Lib.hid (MarkedSy.below (MarkedSy.below Mc11_12.out bk_ om_) hb13 om_)
  clear Mc11_12 yb1_3_12 yb1_2_12 yb1_1_12 yb1_0_12 lb1_12 yb0_3_12 yb0_2_12 yb0_1_12 yb0_0_12 lb0_12 kr3_12 kc2_12 kw_12 s13
  clear hb13
  have kc13 : Below w13.heap.size w13 w13 := bl_refl _
  have o13H := Lib.hid o13
  clear o13
  go_wp2_with fail
  refine (SolidSystem_any _ _ _ ps root _ (hTab.out.below bk_) (o13H.out.rd.below RPt.stable bk_) (by omega)).mono ?_
  rintro e w14 ⟨VA14, VB14, VC14, ka14, kb14, kd14, us14, rfl, v14, hb14⟩
  have s14 : w13.heap.size ≤ w14.heap.size := by have := hb14.size; (try simp at this); omega
  have s14H := Lib.hid s14
  have kw_14 : Below w.heap.size w w14 := bl_tr bk_ hb14
  have kc2_14 : Below w2.heap.size w2 w14 := bl_tr bk_ hb14
  have kr3_14 : Below w3.heap.size w3 w14 := bl_tr bk_ hb14
  have kc13_14 : Below w13.heap.size w13 w14 := bl_tr bk_ hb14
  have lb0_14 : w3.heap.size < w14.heap.size := Nat.lt_of_lt_of_le (by go_simp) hb14.size
  have yb0_0_14 : w14.cell? ⟨w3.heap.size, 0, none⟩ = some (.slice VA3 (shapeS ps root true).1.gs.length ka3) := (hb14.cell (p := ⟨w3.heap.size, 0, none⟩) (by go_simp)).trans (by go_simp)
  have yb0_1_14 : w14.cell? ⟨w3.heap.size, 1, none⟩ = some (.slice VB3 (shapeS ps root true).1.ts.length kb3) := (hb14.cell (p := ⟨w3.heap.size, 1, none⟩) (by go_simp)).trans (by go_simp)
  have yb0_2_14 : w14.cell? ⟨w3.heap.size, 2, none⟩ = some (.slice VC3 (shapeS ps root true).1.xs.length kd3) := (hb14.cell (p := ⟨w3.heap.size, 2, none⟩) (by go_simp)).trans (by go_simp)
  have yb0_3_14 : w14.cell? ⟨w3.heap.size, 3, none⟩ = some (.int .i64 (shapeS ps root true).1.t) := (hb14.cell (p := ⟨w3.heap.size, 3, none⟩) (by go_simp)).trans (by go_simp)
  have lb1_14 : w5.heap.size < w14.heap.size := Nat.lt_of_lt_of_le (by go_simp) hb14.size
  have yb1_0_14 : w14.cell? ⟨w5.heap.size, 0, none⟩ = some (.slice VA5 (shapeS ps root true).1.gs.length ka5) := (hb14.cell (p := ⟨w5.heap.size, 0, none⟩) (by go_simp)).trans (by go_simp)
  have yb1_1_14 : w14.cell? ⟨w5.heap.size, 1, none⟩ = some (.slice VB5 (shapeS ps root true).1.ts.length kb5) := (hb14.cell (p := ⟨w5.heap.size, 1, none⟩) (by go_simp)).trans (by go_simp)
  have yb1_2_14 : w14.cell? ⟨w5.heap.size, 2, none⟩ = some (.slice VC5 (shapeS ps root true).1.xs.length kd5) := (hb14.cell (p := ⟨w5.heap.size, 2, none⟩) (by go_simp)).trans (by go_simp)
  have yb1_3_14 : w14.cell? ⟨w5.heap.size, 3, none⟩ = some (.int .i64 (shapeS ps root true).1.t) := (hb14.cell (p := ⟨w5.heap.size, 3, none⟩) (by go_simp)).trans (by go_simp)
  have Mc11_14 := Lib.hid (MarkedSy.below (MarkedSy.below Mc11_13.out bk_ om_) hb14 om_)
  clear Mc11_13 yb1_3_13 yb1_2_13 yb1_1_13 yb1_0_13 lb1_13 yb0_3_13 yb0_2_13 yb0_1_13 yb0_0_13 lb0_13 kc13 kr3_13 kc2_13 kw_13 s14
  clear hb14
  have kr14 : Below w14.heap.size w14 w14 := bl_refl _
  have v14H := Lib.hid v14
  clear v14
  go_wp2_with fail
  refine (eqSystem_r _ _ _ _ _ _ _ _ _ _ _ _ (shapeS ps root true).1 _ (OwnSy.rd (OwnSy.below v14H.out bk_)) (OwnSy.rd (OwnSy.below v3H.out bk_)) hRl.out).mono ?_
  rintro e w15 ⟨rfl, hb15⟩
  have s15 : w14.heap.size + 1 ≤ w15.heap.size := by have := hb15.size; (try simp at this); omega
  have s15H := Lib.hid s15
  have kw_15 : Below w.heap.size w w15 := bl_tr bk_ hb15
  have kc2_15 : Below w2.heap.size w2 w15 := bl_tr bk_ hb15
  have kr3_15 : Below w3.heap.size w3 w15 := bl_tr bk_ hb15
  have kc13_15 : Below w13.heap.size w13 w15 := bl_tr bk_ hb15
  have kr14_15 : Below w14.heap.size w14 w15 := bl_tr bk_ hb15
  have lb0_15 : w3.heap.size < w15.heap.size := Nat.lt_of_lt_of_le (by go_simp) hb15.size
  have yb0_0_15 : w15.cell? ⟨w3.heap.size, 0, none⟩ = some (.slice VA3 (shapeS ps root true).1.gs.length ka3) := (hb15.cell (p := ⟨w3.heap.size, 0, none⟩) (by go_simp)).trans (by go_simp)
  have yb0_1_15 : w15.cell? ⟨w3.heap.size, 1, none⟩ = some (.slice VB3 (shapeS ps root true).1.ts.length kb3) := (hb15.cell (p := ⟨w3.heap.size, 1, none⟩) (by go_simp)).trans (by go_simp)
  have yb0_2_15 : w15.cell? ⟨w3.heap.size, 2, none⟩ = some (.slice VC3 (shapeS ps root true).1.xs.length kd3) := (hb15.cell (p := ⟨w3.heap.size, 2, none⟩) (by go_simp)).trans (by go_simp)
  have yb0_3_15 : w15.cell? ⟨w3.heap.size, 3, none⟩ = some (.int .i64 (shapeS ps root true).1.t) := (hb15.cell (p := ⟨w3.heap.size, 3, none⟩) (by go_simp)).trans (by go_simp)
  have lb1_15 : w5.heap.size < w15.heap.size := Nat.lt_of_lt_of_le (by go_simp) hb15.size
  have yb1_0_15 : w15.cell? ⟨w5.heap.size, 0, none⟩ = some (.slice VA5 (shapeS ps root true).1.gs.length ka5) := (hb15.cell (p := ⟨w5.heap.size, 0, none⟩) (by go_simp)).trans (by go_simp)
  have yb1_1_15 : w15.cell? ⟨w5.heap.size, 1, none⟩ = some (.slice VB5 (shapeS ps root true).1.ts.length kb5) := (hb15.cell (p := ⟨w5.heap.size, 1, none⟩) (by go_simp)).trans (by go_simp)
  have yb1_2_15 : w15.cell? ⟨w5.heap.size, 2, none⟩ = some (.slice VC5 (shapeS ps root true).1.xs.length kd5) := (hb15.cell (p := ⟨w5.heap.size, 2, none⟩) (by go_simp)).trans (by go_simp)
  have yb1_3_15 : w15.cell? ⟨w5.heap.size, 3, none⟩ = some (.int .i64 (shapeS ps root true).1.t) := (hb15.cell (p := ⟨w5.heap.size, 3, none⟩) (by go_simp)).trans (by go_simp)
  have lb2_15 : w14.heap.size < w15.heap.size := Nat.lt_of_lt_of_le (by go_simp) hb15.size
  have yb2_0_15 : w15.cell? ⟨w14.heap.size, 0, none⟩ = some (.slice VA14 (shapeS ps root true).1.gs.length ka14) := (hb15.cell (p := ⟨w14.heap.size, 0, none⟩) (by go_simp)).trans (by go_simp)
  have yb2_1_15 : w15.cell? ⟨w14.heap.size, 1, none⟩ = some (.slice VB14 (shapeS ps root true).1.ts.length kb14) := (hb15.cell (p := ⟨w14.heap.size, 1, none⟩) (by go_simp)).trans (by go_simp)
  have yb2_2_15 : w15.cell? ⟨w14.heap.size, 2, none⟩ = some (.slice VC14 (shapeS ps root true).1.xs.length kd14) := (hb15.cell (p := ⟨w14.heap.size, 2, none⟩) (by go_simp)).trans (by go_simp)
  have yb2_3_15 : w15.cell? ⟨w14.heap.size, 3, none⟩ = some (.int .i64 (shapeS ps root true).1.t) := (hb15.cell (p := ⟨w14.heap.size, 3, none⟩) (by go_simp)).trans (by go_simp)
  have Mc11_15 := Lib.hid (MarkedSy.below (MarkedSy.below Mc11_14.out bk_ om_) hb15 om_)
  clear Mc11_14 yb1_3_14 yb1_2_14 yb1_1_14 yb1_0_14 lb1_14 yb0_3_14 yb0_2_14 yb0_1_14 yb0_0_14 lb0_14 kr14 kc13_14 kr3_14 kc2_14 kw_14 s15
  clear hb15
  go_wp2_with fail
  refine (heldSystem_r _ _ _ _ _ _ 1 _ _ _ _ _ (MarkedSy.below Mc11_15.out bk_ om_) om_ (by have := hRl.out.g; have := hRl.out.t; have := hRl.out.x; omega)).mono ?_
  rintro e w16 ⟨rfl, hb16⟩
  have s16 : w15.heap.size ≤ w16.heap.size := by have := hb16.size; (try simp at this); omega
  have s16H := Lib.hid s16
  have kw_16 : Below w.heap.size w w16 := bl_tr bk_ hb16
  have kc2_16 : Below w2.heap.size w2 w16 := bl_tr bk_ hb16
  have kr3_16 : Below w3.heap.size w3 w16 := bl_tr bk_ hb16
  have kc13_16 : Below w13.heap.size w13 w16 := bl_tr bk_ hb16
  have kr14_16 : Below w14.heap.size w14 w16 := bl_tr bk_ hb16
  have lb0_16 : w3.heap.size < w16.heap.size := Nat.lt_of_lt_of_le (by go_simp) hb16.size
  have yb0_0_16 : w16.cell? ⟨w3.heap.size, 0, none⟩ = some (.slice VA3 (shapeS ps root true).1.gs.length ka3) := (hb16.cell (p := ⟨w3.heap.size, 0, none⟩) (by go_simp)).trans (by go_simp)
  have yb0_1_16 : w16.cell? ⟨w3.heap.size, 1, none⟩ = some (.slice VB3 (shapeS ps root true).1.ts.length kb3) := (hb16.cell (p := ⟨w3.heap.size, 1, none⟩) (by go_simp)).trans (by go_simp)
  have yb0_2_16 : w16.cell? ⟨w3.heap.size, 2, none⟩ = some (.slice VC3 (shapeS ps root true).1.xs.length kd3) := (hb16.cell (p := ⟨w3.heap.size, 2, none⟩) (by go_simp)).trans (by go_simp)
  have yb0_3_16 : w16.cell? ⟨w3.heap.size, 3, none⟩ = some (.int .i64 (shapeS ps root true).1.t) := (hb16.cell (p := ⟨w3.heap.size, 3, none⟩) (by go_simp)).trans (by go_simp)
  have lb1_16 : w5.heap.size < w16.heap.size := Nat.lt_of_lt_of_le (by go_simp) hb16.size
  have yb1_0_16 : w16.cell? ⟨w5.heap.size, 0, none⟩ = some (.slice VA5 (shapeS ps root true).1.gs.length ka5) := (hb16.cell (p := ⟨w5.heap.size, 0, none⟩) (by go_simp)).trans (by go_simp)
  have yb1_1_16 : w16.cell? ⟨w5.heap.size, 1, none⟩ = some (.slice VB5 (shapeS ps root true).1.ts.length kb5) := (hb16.cell (p := ⟨w5.heap.size, 1, none⟩) (by go_simp)).trans (by go_simp)
  have yb1_2_16 : w16.cell? ⟨w5.heap.size, 2, none⟩ = some (.slice VC5 (shapeS ps root true).1.xs.length kd5) := (hb16.cell (p := ⟨w5.heap.size, 2, none⟩) (by go_simp)).trans (by go_simp)
  have yb1_3_16 : w16.cell? ⟨w5.heap.size, 3, none⟩ = some (.int .i64 (shapeS ps root true).1.t) := (hb16.cell (p := ⟨w5.heap.size, 3, none⟩) (by go_simp)).trans (by go_simp)
  have lb2_16 : w14.heap.size < w16.heap.size := Nat.lt_of_lt_of_le (by go_simp) hb16.size
  have yb2_0_16 : w16.cell? ⟨w14.heap.size, 0, none⟩ = some (.slice VA14 (shapeS ps root true).1.gs.length ka14) := (hb16.cell (p := ⟨w14.heap.size, 0, none⟩) (by go_simp)).trans (by go_simp)
  have yb2_1_16 : w16.cell? ⟨w14.heap.size, 1, none⟩ = some (.slice VB14 (shapeS ps root true).1.ts.length kb14) := (hb16.cell (p := ⟨w14.heap.size, 1, none⟩) (by go_simp)).trans (by go_simp)
  have yb2_2_16 : w16.cell? ⟨w14.heap.size, 2, none⟩ = some (.slice VC14 (shapeS ps root true).1.xs.length kd14) := (hb16.cell (p := ⟨w14.heap.size, 2, none⟩) (by go_simp)).trans (by go_simp)
  have yb2_3_16 : w16.cell? ⟨w14.heap.size, 3, none⟩ = some (.int .i64 (shapeS ps root true).1.t) := (hb16.cell (p := ⟨w14.heap.size, 3, none⟩) (by go_simp)).trans (by go_simp)
  have Mc11_16 := Lib.hid (MarkedSy.below (MarkedSy.below Mc11_15.out bk_ om_) hb16 om_)
  clear Mc11_15 yb2_3_15 yb2_2_15 yb2_1_15 yb2_0_15 lb2_15 yb1_3_15 yb1_2_15 yb1_1_15 yb1_0_15 lb1_15 yb0_3_15 yb0_2_15 yb0_1_15 yb0_0_15 lb0_15 kr14_15 kc13_15 kr3_15 kc2_15 kw_15 s16
  clear hb16
  go_wp2_with fail
  go_ret
  exact ⟨rfl, bk_⟩
end Go.Proofs.YtdcndhiidjgmaaaGreatDoor
