/- Walk: the law FnExactMeasureOf. -/
import Derived.Test.YtmpmokefgdjnkaaGreatKM
import Derived.Test.YtmpmokefgdjnkaaGreatKH
import Derived.Test.YtmpmokefgdjnkaaGreatKO
namespace Go.Proofs.YtmpmokefgdjnkaaGreat
open Go.RowKit
set_option linter.unusedSimpArgs false
set_option linter.unusedVariables false
attribute [local go_sem] BelowBy.cell BelowBy.cell_drew stillUpon givesUpon BelowBy.cell_drew2 BelowBy.cell_drew3

set_option maxRecDepth 100000 in
set_option maxHeartbeats 4000000 in
theorem FnExactMeasureOf_any (G : Option Addr) (n cg : Nat) (gs : List Gl) (T : Option Addr) (m ct : Nat) (ts : List Ti) (A : Option Addr) (q ca : Nat) (xs : List Pl) (t : Int) (C : Option Addr) (nb cb : Nat) (ys : List Pl) (w : World) (hG : RdSl 2 RGl w G n gs) (hT : RdSl 2 RTi w T m ts) (hln : n ≤ 9223372036854775807) (hlm : m ≤ 9223372036854775807) (hgn : ∀ e ∈ gs, e.name.size ≤ 9223372036854775807) (htn : ∀ e ∈ ts, e.name.size ≤ 9223372036854775807 ∧ e.sides.length ≤ 9223372036854775807) (hA : RdSl 3 RPl w A q xs) (hlq : q ≤ 9223372036854775807) (hC : RdSl 3 RPl w C nb ys) (hlnb : nb ≤ 9223372036854775807) :
    Calls Tryz.prog 3 #[.agg #[.slice G n cg, .slice T m ct, .slice A q ca, .int .i64 t], .agg #[.slice C nb cb]] w fun e w' => e = .returned (.bool true) ∧ Below w.heap.size w w' := by
  have hgnH := Lib.hid hgn
  have htnH := Lib.hid htn
  have hgk := Lib.hid (fun (k : Nat) (e : Gl) (h : gs[k]? = some e) => hgn e (List.mem_of_getElem? h))
  have htk := Lib.hid (fun (k : Nat) (e : Ti) (h : ts[k]? = some e) => htn e (List.mem_of_getElem? h))
  clear hgn htn
  go_enter Tryz.func3, Tryz.ntmps3
  have kw := bl_refl w
  go_wp2_with fail
  refine (szSystem_any _ _ _ _ _ _ _ _ _ gs ts _ _ _ (hG.below RGl.stable bk_) (hT.below RTi.stable bk_) (by omega) (by omega) hln hlm hgnH.out htnH.out hlq).mono ?_
  rintro e w1 ⟨r1, rfl, (rfl | ⟨hr10, hr11, ⟨⟨hzn, hx1⟩, hzm, hx2⟩, hzq⟩), hb1⟩
  · go_wp2
    go_ret
    exact ⟨rfl, bl_tr bk_ hb1⟩
  have htsH := Lib.hid (show ∀ e ∈ ts, e.sides.length ≤ 1073741824 from fun e he => by have := (hx2 e he).2; omega)
  clear hx1 hx2
  have s1 : w.heap.size + 2 ≤ w1.heap.size := by have := hb1.size; (try simp at this); omega
  have s1H := Lib.hid s1
  have kw_1 : Below w.heap.size w w1 := bl_tr bk_ hb1
  have lb0_1 : w.heap.size < w1.heap.size := Nat.lt_of_lt_of_le (by go_simp) hb1.size
  have yb0_0_1 : w1.cell? ⟨w.heap.size, 0, none⟩ = some (.slice G n cg) := (hb1.cell (p := ⟨w.heap.size, 0, none⟩) (by go_simp)).trans (by go_simp)
  have yb0_1_1 : w1.cell? ⟨w.heap.size, 1, none⟩ = some (.slice T m ct) := (hb1.cell (p := ⟨w.heap.size, 1, none⟩) (by go_simp)).trans (by go_simp)
  have yb0_2_1 : w1.cell? ⟨w.heap.size, 2, none⟩ = some (.slice A q ca) := (hb1.cell (p := ⟨w.heap.size, 2, none⟩) (by go_simp)).trans (by go_simp)
  have yb0_3_1 : w1.cell? ⟨w.heap.size, 3, none⟩ = some (.int .i64 t) := (hb1.cell (p := ⟨w.heap.size, 3, none⟩) (by go_simp)).trans (by go_simp)
  have lb1_1 : w.heap.size + 1 < w1.heap.size := Nat.lt_of_lt_of_le (by go_simp) hb1.size
  have yb1_0_1 : w1.cell? ⟨w.heap.size + 1, 0, none⟩ = some (.slice C nb cb) := (hb1.cell (p := ⟨w.heap.size + 1, 0, none⟩) (by go_simp)).trans (by go_simp)
  clear kw s1
  clear hb1
  go_wp2_with fail
  refine (szAssembly_any _ _ _ _ _ (by omega) (by omega) hlnb).mono ?_
  rintro e w2 ⟨r2, rfl, (rfl | ⟨hr20, hr21, hznb⟩), hb2⟩
  · go_wp2
    go_ret
    exact ⟨rfl, bl_tr bk_ hb2⟩
  have s2 : w1.heap.size ≤ w2.heap.size := by have := hb2.size; (try simp at this); omega
  have s2H := Lib.hid s2
  have kw_2 : Below w.heap.size w w2 := bl_tr bk_ hb2
  have lb0_2 : w.heap.size < w2.heap.size := Nat.lt_of_lt_of_le (by go_simp) hb2.size
  have yb0_0_2 : w2.cell? ⟨w.heap.size, 0, none⟩ = some (.slice G n cg) := (hb2.cell (p := ⟨w.heap.size, 0, none⟩) (by go_simp)).trans (by go_simp)
  have yb0_1_2 : w2.cell? ⟨w.heap.size, 1, none⟩ = some (.slice T m ct) := (hb2.cell (p := ⟨w.heap.size, 1, none⟩) (by go_simp)).trans (by go_simp)
  have yb0_2_2 : w2.cell? ⟨w.heap.size, 2, none⟩ = some (.slice A q ca) := (hb2.cell (p := ⟨w.heap.size, 2, none⟩) (by go_simp)).trans (by go_simp)
  have yb0_3_2 : w2.cell? ⟨w.heap.size, 3, none⟩ = some (.int .i64 t) := (hb2.cell (p := ⟨w.heap.size, 3, none⟩) (by go_simp)).trans (by go_simp)
  have lb1_2 : w.heap.size + 1 < w2.heap.size := Nat.lt_of_lt_of_le (by go_simp) hb2.size
  have yb1_0_2 : w2.cell? ⟨w.heap.size + 1, 0, none⟩ = some (.slice C nb cb) := (hb2.cell (p := ⟨w.heap.size + 1, 0, none⟩) (by go_simp)).trans (by go_simp)
  clear yb1_0_1 lb1_1 yb0_3_1 yb0_2_1 yb0_1_1 yb0_0_1 lb0_1 kw_1 s2
  clear hb2
  have kR3 : Below w2.heap.size w2 w2 := bl_refl _
  go_wp2_with fail
  refine wp_region_fl 8 [(0, .q), (2, .q), (1, .g), (3, .g), (4, .g), (5, .q), (6, .q), (7, .p)] [(9, .b), (10, .q)] _ (Obj.cells #[.int .i64 0, .int .i64 0, .int .i64 0, .int .i64 0, .int .i64 0, .int .i64 0, .int .i64 0] 34) (by kernel_rfl) (by kernel_rfl) (by kernel_rfl) (by kernel_rfl) rfl (fun a w => ⟨rfl, by unfold flPtr; go_simp⟩) ?_
  simp only [pick, List.filterMap_cons, List.filterMap_nil, List.getElem?_toArray, List.getElem?_cons_zero, List.getElem?_cons_succ, Option.map_some]
  repeat (first | ((with_reducible refine wpL_p (fun K hK => ?_)); go_simp; refine hK _ ?_; clear hK K) | ((with_reducible refine wpL_q (fun K hK => ?_)); go_simp; (first | refine hK _ ?_ | (go_bits; refine hK _ ?_) | (go_bits; go_simp; refine hK _ ?_)); clear hK K))
  with_reducible refine wpL_g rfl (fun K hK st4 w4u mv4 => ?_)
  have hu4 := mv4.below
  have fu4 := (FlAt.none (Obj.cells #[.int .i64 0, .int .i64 0, .int .i64 0, .int .i64 0, .int .i64 0, .int .i64 0, .int .i64 0] 34) (World.drew _)).mv mv4
  have Hmv4 := Lib.hid mv4
  clear mv4
  have s3 : w2.heap.size ≤ w4u.heap.size := by have := hu4.size; (try simp at this); omega
  have s3H := Lib.hid s3
  have kw_3 : Below w.heap.size w w4u := bl_tr bk_ hu4
  have kR3_3 : Below w2.heap.size w2 w4u := bl_tr bk_ hu4
  have lb0_3 : w.heap.size < w4u.heap.size := Nat.lt_of_lt_of_le (by go_simp) hu4.size
  have yb0_0_3 : w4u.cell? ⟨w.heap.size, 0, none⟩ = some (.slice G n cg) := (hu4.cell (p := ⟨w.heap.size, 0, none⟩) (by go_simp)).trans (by go_simp)
  have yb0_1_3 : w4u.cell? ⟨w.heap.size, 1, none⟩ = some (.slice T m ct) := (hu4.cell (p := ⟨w.heap.size, 1, none⟩) (by go_simp)).trans (by go_simp)
  have yb0_2_3 : w4u.cell? ⟨w.heap.size, 2, none⟩ = some (.slice A q ca) := (hu4.cell (p := ⟨w.heap.size, 2, none⟩) (by go_simp)).trans (by go_simp)
  have yb0_3_3 : w4u.cell? ⟨w.heap.size, 3, none⟩ = some (.int .i64 t) := (hu4.cell (p := ⟨w.heap.size, 3, none⟩) (by go_simp)).trans (by go_simp)
  have lb1_3 : w.heap.size + 1 < w4u.heap.size := Nat.lt_of_lt_of_le (by go_simp) hu4.size
  have yb1_0_3 : w4u.cell? ⟨w.heap.size + 1, 0, none⟩ = some (.slice C nb cb) := (hu4.cell (p := ⟨w.heap.size + 1, 0, none⟩) (by go_simp)).trans (by go_simp)
  go_simp
  refine (toSystem_any _ _ _ _ _ _ _ _ _ gs ts xs _ _ (hG.below RGl.stable bk_) (hT.below RTi.stable bk_) (hA.below RPl.stable bk_) (by omega) (by omega) htsH.out (by omega)).mono ?_
  rintro e w4 ⟨G4, T4, A4, rfl, o4, p4, z4, hb4⟩
  refine ⟨_, rfl, hb4, hK _ _ _ ?_⟩
  clear hK K
  have fd4 := fu4.below hb4
  have s4 : w4u.heap.size ≤ w4.heap.size := by have := hb4.size; (try simp at this); omega
  have s4H := Lib.hid s4
  have kw_4 : Below w.heap.size w w4 := bl_tr bk_ hb4
  have kR3_4 : Below w2.heap.size w2 w4 := bl_tr bk_ hb4
  have lb0_4 : w.heap.size < w4.heap.size := Nat.lt_of_lt_of_le (by go_simp) hb4.size
  have yb0_0_4 : w4.cell? ⟨w.heap.size, 0, none⟩ = some (.slice G n cg) := (hb4.cell (p := ⟨w.heap.size, 0, none⟩) (by go_simp)).trans (by go_simp)
  have yb0_1_4 : w4.cell? ⟨w.heap.size, 1, none⟩ = some (.slice T m ct) := (hb4.cell (p := ⟨w.heap.size, 1, none⟩) (by go_simp)).trans (by go_simp)
  have yb0_2_4 : w4.cell? ⟨w.heap.size, 2, none⟩ = some (.slice A q ca) := (hb4.cell (p := ⟨w.heap.size, 2, none⟩) (by go_simp)).trans (by go_simp)
  have yb0_3_4 : w4.cell? ⟨w.heap.size, 3, none⟩ = some (.int .i64 t) := (hb4.cell (p := ⟨w.heap.size, 3, none⟩) (by go_simp)).trans (by go_simp)
  have lb1_4 : w.heap.size + 1 < w4.heap.size := Nat.lt_of_lt_of_le (by go_simp) hb4.size
  have yb1_0_4 : w4.cell? ⟨w.heap.size + 1, 0, none⟩ = some (.slice C nb cb) := (hb4.cell (p := ⟨w.heap.size + 1, 0, none⟩) (by go_simp)).trans (by go_simp)
  clear hb4
  have kc4 : Below w4.heap.size w4 w4 := bl_refl _
  have o4H := Lib.hid o4
  clear o4
  have p4H := Lib.hid p4
  clear p4
  have z4H := Lib.hid z4
  clear z4
  with_reducible refine wpL_g rfl (fun K hK st5 w5u mv5 => ?_)
  have hu5 := mv5.below
  have fu5 := fd4.mv mv5
  have Hmv5 := Lib.hid mv5
  clear mv5
  have s5 : w4.heap.size ≤ w5u.heap.size := by have := hu5.size; (try simp at this); omega
  have s5H := Lib.hid s5
  have kw_5 : Below w.heap.size w w5u := bl_tr bk_ hu5
  have kR3_5 : Below w2.heap.size w2 w5u := bl_tr bk_ hu5
  have kc4_5 : Below w4.heap.size w4 w5u := bl_tr bk_ hu5
  have lb0_5 : w.heap.size < w5u.heap.size := Nat.lt_of_lt_of_le (by go_simp) hu5.size
  have yb0_0_5 : w5u.cell? ⟨w.heap.size, 0, none⟩ = some (.slice G n cg) := (hu5.cell (p := ⟨w.heap.size, 0, none⟩) (by go_simp)).trans (by go_simp)
  have yb0_1_5 : w5u.cell? ⟨w.heap.size, 1, none⟩ = some (.slice T m ct) := (hu5.cell (p := ⟨w.heap.size, 1, none⟩) (by go_simp)).trans (by go_simp)
  have yb0_2_5 : w5u.cell? ⟨w.heap.size, 2, none⟩ = some (.slice A q ca) := (hu5.cell (p := ⟨w.heap.size, 2, none⟩) (by go_simp)).trans (by go_simp)
  have yb0_3_5 : w5u.cell? ⟨w.heap.size, 3, none⟩ = some (.int .i64 t) := (hu5.cell (p := ⟨w.heap.size, 3, none⟩) (by go_simp)).trans (by go_simp)
  have lb1_5 : w.heap.size + 1 < w5u.heap.size := Nat.lt_of_lt_of_le (by go_simp) hu5.size
  have yb1_0_5 : w5u.cell? ⟨w.heap.size + 1, 0, none⟩ = some (.slice C nb cb) := (hu5.cell (p := ⟨w.heap.size + 1, 0, none⟩) (by go_simp)).trans (by go_simp)
  go_simp
  refine (toAssembly_any _ _ _ ys _ (hC.below RPl.stable bk_) (by omega)).mono ?_
  rintro e w5 ⟨A5, rfl, o5, hb5⟩
  refine ⟨_, rfl, hb5, hK _ _ _ ?_⟩
  clear hK K
  have fd5 := fu5.below hb5
  have s6 : w5u.heap.size ≤ w5.heap.size := by have := hb5.size; (try simp at this); omega
  have s6H := Lib.hid s6
  have kw_6 : Below w.heap.size w w5 := bl_tr bk_ hb5
  have kR3_6 : Below w2.heap.size w2 w5 := bl_tr bk_ hb5
  have kc4_6 : Below w4.heap.size w4 w5 := bl_tr bk_ hb5
  have lb0_6 : w.heap.size < w5.heap.size := Nat.lt_of_lt_of_le (by go_simp) hb5.size
  have yb0_0_6 : w5.cell? ⟨w.heap.size, 0, none⟩ = some (.slice G n cg) := (hb5.cell (p := ⟨w.heap.size, 0, none⟩) (by go_simp)).trans (by go_simp)
  have yb0_1_6 : w5.cell? ⟨w.heap.size, 1, none⟩ = some (.slice T m ct) := (hb5.cell (p := ⟨w.heap.size, 1, none⟩) (by go_simp)).trans (by go_simp)
  have yb0_2_6 : w5.cell? ⟨w.heap.size, 2, none⟩ = some (.slice A q ca) := (hb5.cell (p := ⟨w.heap.size, 2, none⟩) (by go_simp)).trans (by go_simp)
  have yb0_3_6 : w5.cell? ⟨w.heap.size, 3, none⟩ = some (.int .i64 t) := (hb5.cell (p := ⟨w.heap.size, 3, none⟩) (by go_simp)).trans (by go_simp)
  have lb1_6 : w.heap.size + 1 < w5.heap.size := Nat.lt_of_lt_of_le (by go_simp) hb5.size
  have yb1_0_6 : w5.cell? ⟨w.heap.size + 1, 0, none⟩ = some (.slice C nb cb) := (hb5.cell (p := ⟨w.heap.size + 1, 0, none⟩) (by go_simp)).trans (by go_simp)
  clear hb5
  have kc5 : Below w5.heap.size w5 w5 := bl_refl _
  have o5H := Lib.hid o5
  clear o5
  with_reducible refine wpL_g rfl (fun K hK st6 w6u mv6 => ?_)
  have hu6 := mv6.below
  have fu6 := fd5.mv mv6
  have Hmv6 := Lib.hid mv6
  clear mv6
  have s7 : w5.heap.size ≤ w6u.heap.size := by have := hu6.size; (try simp at this); omega
  have s7H := Lib.hid s7
  have kw_7 : Below w.heap.size w w6u := bl_tr bk_ hu6
  have kR3_7 : Below w2.heap.size w2 w6u := bl_tr bk_ hu6
  have kc4_7 : Below w4.heap.size w4 w6u := bl_tr bk_ hu6
  have kc5_7 : Below w5.heap.size w5 w6u := bl_tr bk_ hu6
  have lb0_7 : w.heap.size < w6u.heap.size := Nat.lt_of_lt_of_le (by go_simp) hu6.size
  have yb0_0_7 : w6u.cell? ⟨w.heap.size, 0, none⟩ = some (.slice G n cg) := (hu6.cell (p := ⟨w.heap.size, 0, none⟩) (by go_simp)).trans (by go_simp)
  have yb0_1_7 : w6u.cell? ⟨w.heap.size, 1, none⟩ = some (.slice T m ct) := (hu6.cell (p := ⟨w.heap.size, 1, none⟩) (by go_simp)).trans (by go_simp)
  have yb0_2_7 : w6u.cell? ⟨w.heap.size, 2, none⟩ = some (.slice A q ca) := (hu6.cell (p := ⟨w.heap.size, 2, none⟩) (by go_simp)).trans (by go_simp)
  have yb0_3_7 : w6u.cell? ⟨w.heap.size, 3, none⟩ = some (.int .i64 t) := (hu6.cell (p := ⟨w.heap.size, 3, none⟩) (by go_simp)).trans (by go_simp)
  have lb1_7 : w.heap.size + 1 < w6u.heap.size := Nat.lt_of_lt_of_le (by go_simp) hu6.size
  have yb1_0_7 : w6u.cell? ⟨w.heap.size + 1, 0, none⟩ = some (.slice C nb cb) := (hu6.cell (p := ⟨w.heap.size + 1, 0, none⟩) (by go_simp)).trans (by go_simp)
  go_simp
  refine (sMeasureOf_any _ _ _ _ _ _ _ _ _ _ _ _ gs ts xs ys _ _ ⟨o4H.out.rd.below RGl.stable bk_, p4H.out.rdTi.below RTi.stable bk_, z4H.out.rd.below RPl.stable bk_, by omega, by omega, by omega, hgk.out, htk.out⟩ ⟨o4H.out.rd.below RGl.stable bk_, p4H.out.rdTi.below RTi.stable bk_, o5H.out.rd.below RPl.stable bk_, by omega, by omega, by omega, hgk.out, htk.out⟩).mono ?_
  rintro e w6 ⟨rfl, hb6⟩
  refine ⟨_, rfl, hb6, hK _ _ _ ?_⟩
  clear hK K
  have fd6 := fu6.below hb6
  have s8 : w6u.heap.size ≤ w6.heap.size := by have := hb6.size; (try simp at this); omega
  have s8H := Lib.hid s8
  have kw_8 : Below w.heap.size w w6 := bl_tr bk_ hb6
  have kR3_8 : Below w2.heap.size w2 w6 := bl_tr bk_ hb6
  have kc4_8 : Below w4.heap.size w4 w6 := bl_tr bk_ hb6
  have kc5_8 : Below w5.heap.size w5 w6 := bl_tr bk_ hb6
  have lb0_8 : w.heap.size < w6.heap.size := Nat.lt_of_lt_of_le (by go_simp) hb6.size
  have yb0_0_8 : w6.cell? ⟨w.heap.size, 0, none⟩ = some (.slice G n cg) := (hb6.cell (p := ⟨w.heap.size, 0, none⟩) (by go_simp)).trans (by go_simp)
  have yb0_1_8 : w6.cell? ⟨w.heap.size, 1, none⟩ = some (.slice T m ct) := (hb6.cell (p := ⟨w.heap.size, 1, none⟩) (by go_simp)).trans (by go_simp)
  have yb0_2_8 : w6.cell? ⟨w.heap.size, 2, none⟩ = some (.slice A q ca) := (hb6.cell (p := ⟨w.heap.size, 2, none⟩) (by go_simp)).trans (by go_simp)
  have yb0_3_8 : w6.cell? ⟨w.heap.size, 3, none⟩ = some (.int .i64 t) := (hb6.cell (p := ⟨w.heap.size, 3, none⟩) (by go_simp)).trans (by go_simp)
  have lb1_8 : w.heap.size + 1 < w6.heap.size := Nat.lt_of_lt_of_le (by go_simp) hb6.size
  have yb1_0_8 : w6.cell? ⟨w.heap.size + 1, 0, none⟩ = some (.slice C nb cb) := (hb6.cell (p := ⟨w.heap.size + 1, 0, none⟩) (by go_simp)).trans (by go_simp)
  clear hb6
  have kr6 : Below w6.heap.size w6 w6 := bl_refl _
  repeat (first | ((with_reducible refine wpL_p (fun K hK => ?_)); go_simp; refine hK _ ?_; clear hK K) | ((with_reducible refine wpL_q (fun K hK => ?_)); go_simp; (first | refine hK _ ?_ | (go_bits; refine hK _ ?_) | (go_bits; go_simp; refine hK _ ?_)); clear hK K))
  with_reducible refine wpL_nil (fun bF3 w3f mvF => ?_)
  have huF := mvF.below
  obtain ⟨fl3, fb3⟩ := (fd6.mv mvF).2 _ rfl
  clear mvF
  have s9 : w6.heap.size ≤ w3f.heap.size := by have := huF.size; (try simp at this); omega
  have s9H := Lib.hid s9
  have kw_9 : Below w.heap.size w w3f := bl_tr bk_ huF
  have kR3_9 : Below w2.heap.size w2 w3f := bl_tr bk_ huF
  have kc4_9 : Below w4.heap.size w4 w3f := bl_tr bk_ huF
  have kc5_9 : Below w5.heap.size w5 w3f := bl_tr bk_ huF
  have kr6_9 : Below w6.heap.size w6 w3f := bl_tr bk_ huF
  have lb0_9 : w.heap.size < w3f.heap.size := Nat.lt_of_lt_of_le (by go_simp) huF.size
  have yb0_0_9 : w3f.cell? ⟨w.heap.size, 0, none⟩ = some (.slice G n cg) := (huF.cell (p := ⟨w.heap.size, 0, none⟩) (by go_simp)).trans (by go_simp)
  have yb0_1_9 : w3f.cell? ⟨w.heap.size, 1, none⟩ = some (.slice T m ct) := (huF.cell (p := ⟨w.heap.size, 1, none⟩) (by go_simp)).trans (by go_simp)
  have yb0_2_9 : w3f.cell? ⟨w.heap.size, 2, none⟩ = some (.slice A q ca) := (huF.cell (p := ⟨w.heap.size, 2, none⟩) (by go_simp)).trans (by go_simp)
  have yb0_3_9 : w3f.cell? ⟨w.heap.size, 3, none⟩ = some (.int .i64 t) := (huF.cell (p := ⟨w.heap.size, 3, none⟩) (by go_simp)).trans (by go_simp)
  have lb1_9 : w.heap.size + 1 < w3f.heap.size := Nat.lt_of_lt_of_le (by go_simp) huF.size
  have yb1_0_9 : w3f.cell? ⟨w.heap.size + 1, 0, none⟩ = some (.slice C nb cb) := (huF.cell (p := ⟨w.heap.size + 1, 0, none⟩) (by go_simp)).trans (by go_simp)
  simp only [World.size_drew] at fl3
  have rF : w3f.rowIs bF3 34 7 (fun i => (#[.int .i64 0, .int .i64 0, .int .i64 0, .int .i64 0, .int .i64 0, .int .i64 0, .int .i64 0] : Array Value).getD i undef) := ⟨_, fb3, rfl, fun i hi => by simp [hi]⟩
  have yF0 := rF.cell (i := 0) (by decide)
  have kF0 := rF.frozen 0
  have yF1 := rF.cell (i := 1) (by decide)
  have kF1 := rF.frozen 1
  have yF2 := rF.cell (i := 2) (by decide)
  have kF2 := rF.frozen 2
  have yF3 := rF.cell (i := 3) (by decide)
  have kF3 := rF.frozen 3
  have yF4 := rF.cell (i := 4) (by decide)
  have kF4 := rF.frozen 4
  have yF5 := rF.cell (i := 5) (by decide)
  have kF5 := rF.frozen 5
  have yF6 := rF.cell (i := 6) (by decide)
  have kF6 := rF.frozen 6
  have rFH := Lib.hid rF
  clear rF
  simp only [flPtr]
  with_reducible refine wpD_b (fun K hK => ?_)
  go_simp
  refine hK _ _ ?_
  clear hK K
  repeat (first | ((with_reducible refine wpD_p (fun K hK => ?_)); go_simp; refine hK _ ?_; clear hK K) | ((with_reducible refine wpD_q (fun K hK => ?_)); go_simp; (first | refine hK _ ?_ | (go_bits; refine hK _ ?_) | (go_bits; go_simp; refine hK _ ?_)); clear hK K))
  with_reducible refine wpD_nil ?_
  obtain ⟨w7, hV⟩ : ∃ V, V = (((((((w3f.setCell ⟨bF3, 0, none⟩ (.int .i64 (measR gs ts xs t ys).1.tiles)).setCell ⟨bF3, 1, none⟩ (.int .i64 (measR gs ts xs t ys).1.kinds)).setCell ⟨bF3, 2, none⟩ (.int .i64 (measR gs ts xs t ys).1.glues)).setCell ⟨bF3, 3, none⟩ (.int .i64 (measR gs ts xs t ys).1.area)).setCell ⟨bF3, 4, none⟩ (.int .i64 (measR gs ts xs t ys).1.strength)).setCell ⟨bF3, 5, none⟩ (.int .i64 (measR gs ts xs t ys).1.misfits)).setCell ⟨bF3, 6, none⟩ (.int .i64 (measR gs ts xs t ys).1.slack)) := ⟨_, rfl⟩
  rw [← hV]
  have rV := (((((((rFH.out.set 0 (.int .i64 (measR gs ts xs t ys).1.tiles)).set 1 (.int .i64 (measR gs ts xs t ys).1.kinds)).set 2 (.int .i64 (measR gs ts xs t ys).1.glues)).set 3 (.int .i64 (measR gs ts xs t ys).1.area)).set 4 (.int .i64 (measR gs ts xs t ys).1.strength)).set 5 (.int .i64 (measR gs ts xs t ys).1.misfits)).set 6 (.int .i64 (measR gs ts xs t ys).1.slack))
  have hb7 := (((((((kR3_9.setCell (p := ⟨bF3, 0, none⟩) fl3 (.int .i64 (measR gs ts xs t ys).1.tiles)).setCell (p := ⟨bF3, 1, none⟩) fl3 (.int .i64 (measR gs ts xs t ys).1.kinds)).setCell (p := ⟨bF3, 2, none⟩) fl3 (.int .i64 (measR gs ts xs t ys).1.glues)).setCell (p := ⟨bF3, 3, none⟩) fl3 (.int .i64 (measR gs ts xs t ys).1.area)).setCell (p := ⟨bF3, 4, none⟩) fl3 (.int .i64 (measR gs ts xs t ys).1.strength)).setCell (p := ⟨bF3, 5, none⟩) fl3 (.int .i64 (measR gs ts xs t ys).1.misfits)).setCell (p := ⟨bF3, 6, none⟩) fl3 (.int .i64 (measR gs ts xs t ys).1.slack))
  rw [← hV] at rV hb7
  have yg3_0 : w7.cell? ⟨bF3, 0, none⟩ = some (.int .i64 (measR gs ts xs t ys).1.tiles) := by rw [rV.cell (i := 0) (by decide)]; simp
  have yg3_1 : w7.cell? ⟨bF3, 1, none⟩ = some (.int .i64 (measR gs ts xs t ys).1.kinds) := by rw [rV.cell (i := 1) (by decide)]; simp
  have yg3_2 : w7.cell? ⟨bF3, 2, none⟩ = some (.int .i64 (measR gs ts xs t ys).1.glues) := by rw [rV.cell (i := 2) (by decide)]; simp
  have yg3_3 : w7.cell? ⟨bF3, 3, none⟩ = some (.int .i64 (measR gs ts xs t ys).1.area) := by rw [rV.cell (i := 3) (by decide)]; simp
  have yg3_4 : w7.cell? ⟨bF3, 4, none⟩ = some (.int .i64 (measR gs ts xs t ys).1.strength) := by rw [rV.cell (i := 4) (by decide)]; simp
  have yg3_5 : w7.cell? ⟨bF3, 5, none⟩ = some (.int .i64 (measR gs ts xs t ys).1.misfits) := by rw [rV.cell (i := 5) (by decide)]; simp
  have yg3_6 : w7.cell? ⟨bF3, 6, none⟩ = some (.int .i64 (measR gs ts xs t ys).1.slack) := by rw [rV.cell (i := 6) (by decide)]; simp
  have lg3 := rV.lt
  have sF3H := Lib.hid lg3
  clear yF6 kF6 yF5 kF5 yF4 kF4 yF3 kF3 yF2 kF2 yF1 kF1 yF0 kF0 rV
  have s10 : w2.heap.size ≤ w7.heap.size := by have := hb7.size; (try simp at this); omega
  have s10H := Lib.hid s10
  have kw_10 : Below w.heap.size w w7 := bl_tr bk_ hb7
  have lb0_10 : w.heap.size < w7.heap.size := Nat.lt_of_lt_of_le (by go_simp) hb7.size
  have yb0_0_10 : w7.cell? ⟨w.heap.size, 0, none⟩ = some (.slice G n cg) := (hb7.cell (p := ⟨w.heap.size, 0, none⟩) (by go_simp)).trans (by go_simp)
  have yb0_1_10 : w7.cell? ⟨w.heap.size, 1, none⟩ = some (.slice T m ct) := (hb7.cell (p := ⟨w.heap.size, 1, none⟩) (by go_simp)).trans (by go_simp)
  have yb0_2_10 : w7.cell? ⟨w.heap.size, 2, none⟩ = some (.slice A q ca) := (hb7.cell (p := ⟨w.heap.size, 2, none⟩) (by go_simp)).trans (by go_simp)
  have yb0_3_10 : w7.cell? ⟨w.heap.size, 3, none⟩ = some (.int .i64 t) := (hb7.cell (p := ⟨w.heap.size, 3, none⟩) (by go_simp)).trans (by go_simp)
  have lb1_10 : w.heap.size + 1 < w7.heap.size := Nat.lt_of_lt_of_le (by go_simp) hb7.size
  have yb1_0_10 : w7.cell? ⟨w.heap.size + 1, 0, none⟩ = some (.slice C nb cb) := (hb7.cell (p := ⟨w.heap.size + 1, 0, none⟩) (by go_simp)).trans (by go_simp)
  clear yb1_0_2 lb1_2 yb0_3_2 yb0_2_2 yb0_1_2 yb0_0_2 lb0_2 kw_2 s10
  clear hV hb7
  go_wp2_with fail
  refine (toSystem_any _ _ _ _ _ _ _ _ _ gs ts xs _ _ (hG.below RGl.stable bk_) (hT.below RTi.stable bk_) (hA.below RPl.stable bk_) (by omega) (by omega) htsH.out (by omega)).mono ?_
  rintro e w8 ⟨G8, T8, A8, rfl, o8, p8, z8, hb8⟩
  have s11 : w7.heap.size ≤ w8.heap.size := by have := hb8.size; (try simp at this); omega
  have s11H := Lib.hid s11
  have kw_11 : Below w.heap.size w w8 := bl_tr bk_ hb8
  have lb0_11 : w.heap.size < w8.heap.size := Nat.lt_of_lt_of_le (by go_simp) hb8.size
  have yb0_0_11 : w8.cell? ⟨w.heap.size, 0, none⟩ = some (.slice G n cg) := (hb8.cell (p := ⟨w.heap.size, 0, none⟩) (by go_simp)).trans (by go_simp)
  have yb0_1_11 : w8.cell? ⟨w.heap.size, 1, none⟩ = some (.slice T m ct) := (hb8.cell (p := ⟨w.heap.size, 1, none⟩) (by go_simp)).trans (by go_simp)
  have yb0_2_11 : w8.cell? ⟨w.heap.size, 2, none⟩ = some (.slice A q ca) := (hb8.cell (p := ⟨w.heap.size, 2, none⟩) (by go_simp)).trans (by go_simp)
  have yb0_3_11 : w8.cell? ⟨w.heap.size, 3, none⟩ = some (.int .i64 t) := (hb8.cell (p := ⟨w.heap.size, 3, none⟩) (by go_simp)).trans (by go_simp)
  have lb1_11 : w.heap.size + 1 < w8.heap.size := Nat.lt_of_lt_of_le (by go_simp) hb8.size
  have yb1_0_11 : w8.cell? ⟨w.heap.size + 1, 0, none⟩ = some (.slice C nb cb) := (hb8.cell (p := ⟨w.heap.size + 1, 0, none⟩) (by go_simp)).trans (by go_simp)
  have lb2_11 : bF3 < w8.heap.size := Nat.lt_of_lt_of_le (by go_simp) hb8.size
  have yb2_0_11 : w8.cell? ⟨bF3, 0, none⟩ = some (.int .i64 (measR gs ts xs t ys).1.tiles) := (hb8.cell (p := ⟨bF3, 0, none⟩) (by go_simp)).trans (by go_simp)
  have yb2_1_11 : w8.cell? ⟨bF3, 1, none⟩ = some (.int .i64 (measR gs ts xs t ys).1.kinds) := (hb8.cell (p := ⟨bF3, 1, none⟩) (by go_simp)).trans (by go_simp)
  have yb2_2_11 : w8.cell? ⟨bF3, 2, none⟩ = some (.int .i64 (measR gs ts xs t ys).1.glues) := (hb8.cell (p := ⟨bF3, 2, none⟩) (by go_simp)).trans (by go_simp)
  have yb2_3_11 : w8.cell? ⟨bF3, 3, none⟩ = some (.int .i64 (measR gs ts xs t ys).1.area) := (hb8.cell (p := ⟨bF3, 3, none⟩) (by go_simp)).trans (by go_simp)
  have yb2_4_11 : w8.cell? ⟨bF3, 4, none⟩ = some (.int .i64 (measR gs ts xs t ys).1.strength) := (hb8.cell (p := ⟨bF3, 4, none⟩) (by go_simp)).trans (by go_simp)
  have yb2_5_11 : w8.cell? ⟨bF3, 5, none⟩ = some (.int .i64 (measR gs ts xs t ys).1.misfits) := (hb8.cell (p := ⟨bF3, 5, none⟩) (by go_simp)).trans (by go_simp)
  have yb2_6_11 : w8.cell? ⟨bF3, 6, none⟩ = some (.int .i64 (measR gs ts xs t ys).1.slack) := (hb8.cell (p := ⟨bF3, 6, none⟩) (by go_simp)).trans (by go_simp)
  clear yg3_6 yg3_5 yg3_4 yg3_3 yg3_2 yg3_1 yg3_0 lg3 yb1_0_10 lb1_10 yb0_3_10 yb0_2_10 yb0_1_10 yb0_0_10 lb0_10 kw_10 s11
  clear hb8
  have kc8 : Below w8.heap.size w8 w8 := bl_refl _
  have o8H := Lib.hid o8
  clear o8
  have p8H := Lib.hid p8
  clear p8
  have z8H := Lib.hid z8
  clear z8
  go_wp2_with fail
  refine (toAssembly_any _ _ _ ys _ (hC.below RPl.stable bk_) (by omega)).mono ?_
  rintro e w9 ⟨A9, rfl, o9, hb9⟩
  have s12 : w8.heap.size + 1 ≤ w9.heap.size := by have := hb9.size; (try simp at this); omega
  have s12H := Lib.hid s12
  have kw_12 : Below w.heap.size w w9 := bl_tr bk_ hb9
  have kc8_12 : Below w8.heap.size w8 w9 := bl_tr bk_ hb9
  have lb0_12 : w.heap.size < w9.heap.size := Nat.lt_of_lt_of_le (by go_simp) hb9.size
  have yb0_0_12 : w9.cell? ⟨w.heap.size, 0, none⟩ = some (.slice G n cg) := (hb9.cell (p := ⟨w.heap.size, 0, none⟩) (by go_simp)).trans (by go_simp)
  have yb0_1_12 : w9.cell? ⟨w.heap.size, 1, none⟩ = some (.slice T m ct) := (hb9.cell (p := ⟨w.heap.size, 1, none⟩) (by go_simp)).trans (by go_simp)
  have yb0_2_12 : w9.cell? ⟨w.heap.size, 2, none⟩ = some (.slice A q ca) := (hb9.cell (p := ⟨w.heap.size, 2, none⟩) (by go_simp)).trans (by go_simp)
  have yb0_3_12 : w9.cell? ⟨w.heap.size, 3, none⟩ = some (.int .i64 t) := (hb9.cell (p := ⟨w.heap.size, 3, none⟩) (by go_simp)).trans (by go_simp)
  have lb1_12 : w.heap.size + 1 < w9.heap.size := Nat.lt_of_lt_of_le (by go_simp) hb9.size
  have yb1_0_12 : w9.cell? ⟨w.heap.size + 1, 0, none⟩ = some (.slice C nb cb) := (hb9.cell (p := ⟨w.heap.size + 1, 0, none⟩) (by go_simp)).trans (by go_simp)
  have lb2_12 : bF3 < w9.heap.size := Nat.lt_of_lt_of_le (by go_simp) hb9.size
  have yb2_0_12 : w9.cell? ⟨bF3, 0, none⟩ = some (.int .i64 (measR gs ts xs t ys).1.tiles) := (hb9.cell (p := ⟨bF3, 0, none⟩) (by go_simp)).trans (by go_simp)
  have yb2_1_12 : w9.cell? ⟨bF3, 1, none⟩ = some (.int .i64 (measR gs ts xs t ys).1.kinds) := (hb9.cell (p := ⟨bF3, 1, none⟩) (by go_simp)).trans (by go_simp)
  have yb2_2_12 : w9.cell? ⟨bF3, 2, none⟩ = some (.int .i64 (measR gs ts xs t ys).1.glues) := (hb9.cell (p := ⟨bF3, 2, none⟩) (by go_simp)).trans (by go_simp)
  have yb2_3_12 : w9.cell? ⟨bF3, 3, none⟩ = some (.int .i64 (measR gs ts xs t ys).1.area) := (hb9.cell (p := ⟨bF3, 3, none⟩) (by go_simp)).trans (by go_simp)
  have yb2_4_12 : w9.cell? ⟨bF3, 4, none⟩ = some (.int .i64 (measR gs ts xs t ys).1.strength) := (hb9.cell (p := ⟨bF3, 4, none⟩) (by go_simp)).trans (by go_simp)
  have yb2_5_12 : w9.cell? ⟨bF3, 5, none⟩ = some (.int .i64 (measR gs ts xs t ys).1.misfits) := (hb9.cell (p := ⟨bF3, 5, none⟩) (by go_simp)).trans (by go_simp)
  have yb2_6_12 : w9.cell? ⟨bF3, 6, none⟩ = some (.int .i64 (measR gs ts xs t ys).1.slack) := (hb9.cell (p := ⟨bF3, 6, none⟩) (by go_simp)).trans (by go_simp)
  have lb3_12 : w8.heap.size < w9.heap.size := Nat.lt_of_lt_of_le (by go_simp) hb9.size
  have yb3_0_12 : w9.cell? ⟨w8.heap.size, 0, none⟩ = some (.slice G8 n n) := (hb9.cell (p := ⟨w8.heap.size, 0, none⟩) (by go_simp)).trans (by go_simp)
  have yb3_1_12 : w9.cell? ⟨w8.heap.size, 1, none⟩ = some (.slice T8 m m) := (hb9.cell (p := ⟨w8.heap.size, 1, none⟩) (by go_simp)).trans (by go_simp)
  have yb3_2_12 : w9.cell? ⟨w8.heap.size, 2, none⟩ = some (.slice A8 q q) := (hb9.cell (p := ⟨w8.heap.size, 2, none⟩) (by go_simp)).trans (by go_simp)
  have yb3_3_12 : w9.cell? ⟨w8.heap.size, 3, none⟩ = some (.int .i64 t) := (hb9.cell (p := ⟨w8.heap.size, 3, none⟩) (by go_simp)).trans (by go_simp)
  clear yb2_6_11 yb2_5_11 yb2_4_11 yb2_3_11 yb2_2_11 yb2_1_11 yb2_0_11 lb2_11 yb1_0_11 lb1_11 yb0_3_11 yb0_2_11 yb0_1_11 yb0_0_11 lb0_11 kc8 kw_11 s12
  clear hb9
  have kc9 : Below w9.heap.size w9 w9 := bl_refl _
  have o9H := Lib.hid o9
  clear o9
  go_wp2_with fail
  refine (MeasureOf_any _ _ _ _ _ _ _ _ _ _ _ _ gs ts xs ys _ _ ⟨o8H.out.rd.below RGl.stable bk_, p8H.out.rdTi.below RTi.stable bk_, z8H.out.rd.below RPl.stable bk_, by omega, by omega, by omega, hgk.out, htk.out⟩ ⟨o8H.out.rd.below RGl.stable bk_, p8H.out.rdTi.below RTi.stable bk_, o9H.out.rd.below RPl.stable bk_, by omega, by omega, by omega, hgk.out, htk.out⟩).mono ?_
  rintro e w10 ⟨rfl, hb10⟩
  have s13 : w9.heap.size + 1 ≤ w10.heap.size := by have := hb10.size; (try simp at this); omega
  have s13H := Lib.hid s13
  have kw_13 : Below w.heap.size w w10 := bl_tr bk_ hb10
  have kc8_13 : Below w8.heap.size w8 w10 := bl_tr bk_ hb10
  have kc9_13 : Below w9.heap.size w9 w10 := bl_tr bk_ hb10
  have lb0_13 : w.heap.size < w10.heap.size := Nat.lt_of_lt_of_le (by go_simp) hb10.size
  have yb0_0_13 : w10.cell? ⟨w.heap.size, 0, none⟩ = some (.slice G n cg) := (hb10.cell (p := ⟨w.heap.size, 0, none⟩) (by go_simp)).trans (by go_simp)
  have yb0_1_13 : w10.cell? ⟨w.heap.size, 1, none⟩ = some (.slice T m ct) := (hb10.cell (p := ⟨w.heap.size, 1, none⟩) (by go_simp)).trans (by go_simp)
  have yb0_2_13 : w10.cell? ⟨w.heap.size, 2, none⟩ = some (.slice A q ca) := (hb10.cell (p := ⟨w.heap.size, 2, none⟩) (by go_simp)).trans (by go_simp)
  have yb0_3_13 : w10.cell? ⟨w.heap.size, 3, none⟩ = some (.int .i64 t) := (hb10.cell (p := ⟨w.heap.size, 3, none⟩) (by go_simp)).trans (by go_simp)
  have lb1_13 : w.heap.size + 1 < w10.heap.size := Nat.lt_of_lt_of_le (by go_simp) hb10.size
  have yb1_0_13 : w10.cell? ⟨w.heap.size + 1, 0, none⟩ = some (.slice C nb cb) := (hb10.cell (p := ⟨w.heap.size + 1, 0, none⟩) (by go_simp)).trans (by go_simp)
  have lb2_13 : bF3 < w10.heap.size := Nat.lt_of_lt_of_le (by go_simp) hb10.size
  have yb2_0_13 : w10.cell? ⟨bF3, 0, none⟩ = some (.int .i64 (measR gs ts xs t ys).1.tiles) := (hb10.cell (p := ⟨bF3, 0, none⟩) (by go_simp)).trans (by go_simp)
  have yb2_1_13 : w10.cell? ⟨bF3, 1, none⟩ = some (.int .i64 (measR gs ts xs t ys).1.kinds) := (hb10.cell (p := ⟨bF3, 1, none⟩) (by go_simp)).trans (by go_simp)
  have yb2_2_13 : w10.cell? ⟨bF3, 2, none⟩ = some (.int .i64 (measR gs ts xs t ys).1.glues) := (hb10.cell (p := ⟨bF3, 2, none⟩) (by go_simp)).trans (by go_simp)
  have yb2_3_13 : w10.cell? ⟨bF3, 3, none⟩ = some (.int .i64 (measR gs ts xs t ys).1.area) := (hb10.cell (p := ⟨bF3, 3, none⟩) (by go_simp)).trans (by go_simp)
  have yb2_4_13 : w10.cell? ⟨bF3, 4, none⟩ = some (.int .i64 (measR gs ts xs t ys).1.strength) := (hb10.cell (p := ⟨bF3, 4, none⟩) (by go_simp)).trans (by go_simp)
  have yb2_5_13 : w10.cell? ⟨bF3, 5, none⟩ = some (.int .i64 (measR gs ts xs t ys).1.misfits) := (hb10.cell (p := ⟨bF3, 5, none⟩) (by go_simp)).trans (by go_simp)
  have yb2_6_13 : w10.cell? ⟨bF3, 6, none⟩ = some (.int .i64 (measR gs ts xs t ys).1.slack) := (hb10.cell (p := ⟨bF3, 6, none⟩) (by go_simp)).trans (by go_simp)
  have lb3_13 : w8.heap.size < w10.heap.size := Nat.lt_of_lt_of_le (by go_simp) hb10.size
  have yb3_0_13 : w10.cell? ⟨w8.heap.size, 0, none⟩ = some (.slice G8 n n) := (hb10.cell (p := ⟨w8.heap.size, 0, none⟩) (by go_simp)).trans (by go_simp)
  have yb3_1_13 : w10.cell? ⟨w8.heap.size, 1, none⟩ = some (.slice T8 m m) := (hb10.cell (p := ⟨w8.heap.size, 1, none⟩) (by go_simp)).trans (by go_simp)
  have yb3_2_13 : w10.cell? ⟨w8.heap.size, 2, none⟩ = some (.slice A8 q q) := (hb10.cell (p := ⟨w8.heap.size, 2, none⟩) (by go_simp)).trans (by go_simp)
  have yb3_3_13 : w10.cell? ⟨w8.heap.size, 3, none⟩ = some (.int .i64 t) := (hb10.cell (p := ⟨w8.heap.size, 3, none⟩) (by go_simp)).trans (by go_simp)
  have lb4_13 : w9.heap.size < w10.heap.size := Nat.lt_of_lt_of_le (by go_simp) hb10.size
  have yb4_0_13 : w10.cell? ⟨w9.heap.size, 0, none⟩ = some (.slice A9 nb nb) := (hb10.cell (p := ⟨w9.heap.size, 0, none⟩) (by go_simp)).trans (by go_simp)
  clear yb3_3_12 yb3_2_12 yb3_1_12 yb3_0_12 lb3_12 yb2_6_12 yb2_5_12 yb2_4_12 yb2_3_12 yb2_2_12 yb2_1_12 yb2_0_12 lb2_12 yb1_0_12 lb1_12 yb0_3_12 yb0_2_12 yb0_1_12 yb0_0_12 lb0_12 kc9 kc8_12 kw_12 s13
  clear hb10
  have kr10 : Below w10.heap.size w10 w10 := bl_refl _
  go_wp2_with fail
  refine (eqMeasure_same _ _ _ _ _ _ _ _).mono ?_
  rintro e w11 ⟨rfl, hb11⟩
  have s14 : w10.heap.size + 1 ≤ w11.heap.size := by have := hb11.size; (try simp at this); omega
  have s14H := Lib.hid s14
  have kw_14 : Below w.heap.size w w11 := bl_tr bk_ hb11
  have kc8_14 : Below w8.heap.size w8 w11 := bl_tr bk_ hb11
  have kc9_14 : Below w9.heap.size w9 w11 := bl_tr bk_ hb11
  have kr10_14 : Below w10.heap.size w10 w11 := bl_tr bk_ hb11
  have lb0_14 : w.heap.size < w11.heap.size := Nat.lt_of_lt_of_le (by go_simp) hb11.size
  have yb0_0_14 : w11.cell? ⟨w.heap.size, 0, none⟩ = some (.slice G n cg) := (hb11.cell (p := ⟨w.heap.size, 0, none⟩) (by go_simp)).trans (by go_simp)
  have yb0_1_14 : w11.cell? ⟨w.heap.size, 1, none⟩ = some (.slice T m ct) := (hb11.cell (p := ⟨w.heap.size, 1, none⟩) (by go_simp)).trans (by go_simp)
  have yb0_2_14 : w11.cell? ⟨w.heap.size, 2, none⟩ = some (.slice A q ca) := (hb11.cell (p := ⟨w.heap.size, 2, none⟩) (by go_simp)).trans (by go_simp)
  have yb0_3_14 : w11.cell? ⟨w.heap.size, 3, none⟩ = some (.int .i64 t) := (hb11.cell (p := ⟨w.heap.size, 3, none⟩) (by go_simp)).trans (by go_simp)
  have lb1_14 : w.heap.size + 1 < w11.heap.size := Nat.lt_of_lt_of_le (by go_simp) hb11.size
  have yb1_0_14 : w11.cell? ⟨w.heap.size + 1, 0, none⟩ = some (.slice C nb cb) := (hb11.cell (p := ⟨w.heap.size + 1, 0, none⟩) (by go_simp)).trans (by go_simp)
  have lb2_14 : bF3 < w11.heap.size := Nat.lt_of_lt_of_le (by go_simp) hb11.size
  have yb2_0_14 : w11.cell? ⟨bF3, 0, none⟩ = some (.int .i64 (measR gs ts xs t ys).1.tiles) := (hb11.cell (p := ⟨bF3, 0, none⟩) (by go_simp)).trans (by go_simp)
  have yb2_1_14 : w11.cell? ⟨bF3, 1, none⟩ = some (.int .i64 (measR gs ts xs t ys).1.kinds) := (hb11.cell (p := ⟨bF3, 1, none⟩) (by go_simp)).trans (by go_simp)
  have yb2_2_14 : w11.cell? ⟨bF3, 2, none⟩ = some (.int .i64 (measR gs ts xs t ys).1.glues) := (hb11.cell (p := ⟨bF3, 2, none⟩) (by go_simp)).trans (by go_simp)
  have yb2_3_14 : w11.cell? ⟨bF3, 3, none⟩ = some (.int .i64 (measR gs ts xs t ys).1.area) := (hb11.cell (p := ⟨bF3, 3, none⟩) (by go_simp)).trans (by go_simp)
  have yb2_4_14 : w11.cell? ⟨bF3, 4, none⟩ = some (.int .i64 (measR gs ts xs t ys).1.strength) := (hb11.cell (p := ⟨bF3, 4, none⟩) (by go_simp)).trans (by go_simp)
  have yb2_5_14 : w11.cell? ⟨bF3, 5, none⟩ = some (.int .i64 (measR gs ts xs t ys).1.misfits) := (hb11.cell (p := ⟨bF3, 5, none⟩) (by go_simp)).trans (by go_simp)
  have yb2_6_14 : w11.cell? ⟨bF3, 6, none⟩ = some (.int .i64 (measR gs ts xs t ys).1.slack) := (hb11.cell (p := ⟨bF3, 6, none⟩) (by go_simp)).trans (by go_simp)
  have lb3_14 : w8.heap.size < w11.heap.size := Nat.lt_of_lt_of_le (by go_simp) hb11.size
  have yb3_0_14 : w11.cell? ⟨w8.heap.size, 0, none⟩ = some (.slice G8 n n) := (hb11.cell (p := ⟨w8.heap.size, 0, none⟩) (by go_simp)).trans (by go_simp)
  have yb3_1_14 : w11.cell? ⟨w8.heap.size, 1, none⟩ = some (.slice T8 m m) := (hb11.cell (p := ⟨w8.heap.size, 1, none⟩) (by go_simp)).trans (by go_simp)
  have yb3_2_14 : w11.cell? ⟨w8.heap.size, 2, none⟩ = some (.slice A8 q q) := (hb11.cell (p := ⟨w8.heap.size, 2, none⟩) (by go_simp)).trans (by go_simp)
  have yb3_3_14 : w11.cell? ⟨w8.heap.size, 3, none⟩ = some (.int .i64 t) := (hb11.cell (p := ⟨w8.heap.size, 3, none⟩) (by go_simp)).trans (by go_simp)
  have lb4_14 : w9.heap.size < w11.heap.size := Nat.lt_of_lt_of_le (by go_simp) hb11.size
  have yb4_0_14 : w11.cell? ⟨w9.heap.size, 0, none⟩ = some (.slice A9 nb nb) := (hb11.cell (p := ⟨w9.heap.size, 0, none⟩) (by go_simp)).trans (by go_simp)
  have lb5_14 : w10.heap.size < w11.heap.size := Nat.lt_of_lt_of_le (by go_simp) hb11.size
  have yb5_0_14 : w11.cell? ⟨w10.heap.size, 0, none⟩ = some (.int .i64 (measR gs ts xs t ys).1.tiles) := (hb11.cell (p := ⟨w10.heap.size, 0, none⟩) (by go_simp)).trans (by go_simp)
  have yb5_1_14 : w11.cell? ⟨w10.heap.size, 1, none⟩ = some (.int .i64 (measR gs ts xs t ys).1.kinds) := (hb11.cell (p := ⟨w10.heap.size, 1, none⟩) (by go_simp)).trans (by go_simp)
  have yb5_2_14 : w11.cell? ⟨w10.heap.size, 2, none⟩ = some (.int .i64 (measR gs ts xs t ys).1.glues) := (hb11.cell (p := ⟨w10.heap.size, 2, none⟩) (by go_simp)).trans (by go_simp)
  have yb5_3_14 : w11.cell? ⟨w10.heap.size, 3, none⟩ = some (.int .i64 (measR gs ts xs t ys).1.area) := (hb11.cell (p := ⟨w10.heap.size, 3, none⟩) (by go_simp)).trans (by go_simp)
  have yb5_4_14 : w11.cell? ⟨w10.heap.size, 4, none⟩ = some (.int .i64 (measR gs ts xs t ys).1.strength) := (hb11.cell (p := ⟨w10.heap.size, 4, none⟩) (by go_simp)).trans (by go_simp)
  have yb5_5_14 : w11.cell? ⟨w10.heap.size, 5, none⟩ = some (.int .i64 (measR gs ts xs t ys).1.misfits) := (hb11.cell (p := ⟨w10.heap.size, 5, none⟩) (by go_simp)).trans (by go_simp)
  have yb5_6_14 : w11.cell? ⟨w10.heap.size, 6, none⟩ = some (.int .i64 (measR gs ts xs t ys).1.slack) := (hb11.cell (p := ⟨w10.heap.size, 6, none⟩) (by go_simp)).trans (by go_simp)
  clear yb4_0_13 lb4_13 yb3_3_13 yb3_2_13 yb3_1_13 yb3_0_13 lb3_13 yb2_6_13 yb2_5_13 yb2_4_13 yb2_3_13 yb2_2_13 yb2_1_13 yb2_0_13 lb2_13 yb1_0_13 lb1_13 yb0_3_13 yb0_2_13 yb0_1_13 yb0_0_13 lb0_13 kr10 kc9_13 kc8_13 kw_13 s14
  clear hb11
  go_wp2_with fail
  refine wp_region_ord [(0, .q), (1, .q), (2, .g), (3, .g), (4, .q)] (by kernel_rfl) (by kernel_rfl) ?_
  simp only [pick, List.filterMap_cons, List.filterMap_nil, List.getElem?_toArray, List.getElem?_cons_zero, List.getElem?_cons_succ, Option.map_some]
  repeat (first | ((with_reducible refine wpD_p (fun K hK => ?_)); go_simp; refine hK _ ?_; clear hK K) | ((with_reducible refine wpD_q (fun K hK => ?_)); go_simp; (first | refine hK _ ?_ | (go_bits; refine hK _ ?_) | (go_bits; go_simp; refine hK _ ?_)); clear hK K))
  with_reducible refine wpD_g (fun K hK => ?_)
  go_simp
  refine (toSystem_any _ _ _ _ _ _ _ _ _ gs ts xs _ _ (hG.below RGl.stable bk_) (hT.below RTi.stable bk_) (hA.below RPl.stable bk_) (by omega) (by omega) htsH.out (by omega)).mono ?_
  rintro e w12 ⟨G12, T12, A12, rfl, o12, p12, z12, hb12⟩
  refine ⟨_, rfl, hb12, hK _ _ ?_⟩
  clear hK K
  have s15 : w11.heap.size ≤ w12.heap.size := by have := hb12.size; (try simp at this); omega
  have s15H := Lib.hid s15
  have kw_15 : Below w.heap.size w w12 := bl_tr bk_ hb12
  have kc8_15 : Below w8.heap.size w8 w12 := bl_tr bk_ hb12
  have kc9_15 : Below w9.heap.size w9 w12 := bl_tr bk_ hb12
  have kr10_15 : Below w10.heap.size w10 w12 := bl_tr bk_ hb12
  have lb0_15 : w.heap.size < w12.heap.size := Nat.lt_of_lt_of_le (by go_simp) hb12.size
  have yb0_0_15 : w12.cell? ⟨w.heap.size, 0, none⟩ = some (.slice G n cg) := (hb12.cell (p := ⟨w.heap.size, 0, none⟩) (by go_simp)).trans (by go_simp)
  have yb0_1_15 : w12.cell? ⟨w.heap.size, 1, none⟩ = some (.slice T m ct) := (hb12.cell (p := ⟨w.heap.size, 1, none⟩) (by go_simp)).trans (by go_simp)
  have yb0_2_15 : w12.cell? ⟨w.heap.size, 2, none⟩ = some (.slice A q ca) := (hb12.cell (p := ⟨w.heap.size, 2, none⟩) (by go_simp)).trans (by go_simp)
  have yb0_3_15 : w12.cell? ⟨w.heap.size, 3, none⟩ = some (.int .i64 t) := (hb12.cell (p := ⟨w.heap.size, 3, none⟩) (by go_simp)).trans (by go_simp)
  have lb1_15 : w.heap.size + 1 < w12.heap.size := Nat.lt_of_lt_of_le (by go_simp) hb12.size
  have yb1_0_15 : w12.cell? ⟨w.heap.size + 1, 0, none⟩ = some (.slice C nb cb) := (hb12.cell (p := ⟨w.heap.size + 1, 0, none⟩) (by go_simp)).trans (by go_simp)
  have lb2_15 : bF3 < w12.heap.size := Nat.lt_of_lt_of_le (by go_simp) hb12.size
  have yb2_0_15 : w12.cell? ⟨bF3, 0, none⟩ = some (.int .i64 (measR gs ts xs t ys).1.tiles) := (hb12.cell (p := ⟨bF3, 0, none⟩) (by go_simp)).trans (by go_simp)
  have yb2_1_15 : w12.cell? ⟨bF3, 1, none⟩ = some (.int .i64 (measR gs ts xs t ys).1.kinds) := (hb12.cell (p := ⟨bF3, 1, none⟩) (by go_simp)).trans (by go_simp)
  have yb2_2_15 : w12.cell? ⟨bF3, 2, none⟩ = some (.int .i64 (measR gs ts xs t ys).1.glues) := (hb12.cell (p := ⟨bF3, 2, none⟩) (by go_simp)).trans (by go_simp)
  have yb2_3_15 : w12.cell? ⟨bF3, 3, none⟩ = some (.int .i64 (measR gs ts xs t ys).1.area) := (hb12.cell (p := ⟨bF3, 3, none⟩) (by go_simp)).trans (by go_simp)
  have yb2_4_15 : w12.cell? ⟨bF3, 4, none⟩ = some (.int .i64 (measR gs ts xs t ys).1.strength) := (hb12.cell (p := ⟨bF3, 4, none⟩) (by go_simp)).trans (by go_simp)
  have yb2_5_15 : w12.cell? ⟨bF3, 5, none⟩ = some (.int .i64 (measR gs ts xs t ys).1.misfits) := (hb12.cell (p := ⟨bF3, 5, none⟩) (by go_simp)).trans (by go_simp)
  have yb2_6_15 : w12.cell? ⟨bF3, 6, none⟩ = some (.int .i64 (measR gs ts xs t ys).1.slack) := (hb12.cell (p := ⟨bF3, 6, none⟩) (by go_simp)).trans (by go_simp)
  have lb3_15 : w8.heap.size < w12.heap.size := Nat.lt_of_lt_of_le (by go_simp) hb12.size
  have yb3_0_15 : w12.cell? ⟨w8.heap.size, 0, none⟩ = some (.slice G8 n n) := (hb12.cell (p := ⟨w8.heap.size, 0, none⟩) (by go_simp)).trans (by go_simp)
  have yb3_1_15 : w12.cell? ⟨w8.heap.size, 1, none⟩ = some (.slice T8 m m) := (hb12.cell (p := ⟨w8.heap.size, 1, none⟩) (by go_simp)).trans (by go_simp)
  have yb3_2_15 : w12.cell? ⟨w8.heap.size, 2, none⟩ = some (.slice A8 q q) := (hb12.cell (p := ⟨w8.heap.size, 2, none⟩) (by go_simp)).trans (by go_simp)
  have yb3_3_15 : w12.cell? ⟨w8.heap.size, 3, none⟩ = some (.int .i64 t) := (hb12.cell (p := ⟨w8.heap.size, 3, none⟩) (by go_simp)).trans (by go_simp)
  have lb4_15 : w9.heap.size < w12.heap.size := Nat.lt_of_lt_of_le (by go_simp) hb12.size
  have yb4_0_15 : w12.cell? ⟨w9.heap.size, 0, none⟩ = some (.slice A9 nb nb) := (hb12.cell (p := ⟨w9.heap.size, 0, none⟩) (by go_simp)).trans (by go_simp)
  have lb5_15 : w10.heap.size < w12.heap.size := Nat.lt_of_lt_of_le (by go_simp) hb12.size
  have yb5_0_15 : w12.cell? ⟨w10.heap.size, 0, none⟩ = some (.int .i64 (measR gs ts xs t ys).1.tiles) := (hb12.cell (p := ⟨w10.heap.size, 0, none⟩) (by go_simp)).trans (by go_simp)
  have yb5_1_15 : w12.cell? ⟨w10.heap.size, 1, none⟩ = some (.int .i64 (measR gs ts xs t ys).1.kinds) := (hb12.cell (p := ⟨w10.heap.size, 1, none⟩) (by go_simp)).trans (by go_simp)
  have yb5_2_15 : w12.cell? ⟨w10.heap.size, 2, none⟩ = some (.int .i64 (measR gs ts xs t ys).1.glues) := (hb12.cell (p := ⟨w10.heap.size, 2, none⟩) (by go_simp)).trans (by go_simp)
  have yb5_3_15 : w12.cell? ⟨w10.heap.size, 3, none⟩ = some (.int .i64 (measR gs ts xs t ys).1.area) := (hb12.cell (p := ⟨w10.heap.size, 3, none⟩) (by go_simp)).trans (by go_simp)
  have yb5_4_15 : w12.cell? ⟨w10.heap.size, 4, none⟩ = some (.int .i64 (measR gs ts xs t ys).1.strength) := (hb12.cell (p := ⟨w10.heap.size, 4, none⟩) (by go_simp)).trans (by go_simp)
  have yb5_5_15 : w12.cell? ⟨w10.heap.size, 5, none⟩ = some (.int .i64 (measR gs ts xs t ys).1.misfits) := (hb12.cell (p := ⟨w10.heap.size, 5, none⟩) (by go_simp)).trans (by go_simp)
  have yb5_6_15 : w12.cell? ⟨w10.heap.size, 6, none⟩ = some (.int .i64 (measR gs ts xs t ys).1.slack) := (hb12.cell (p := ⟨w10.heap.size, 6, none⟩) (by go_simp)).trans (by go_simp)
  clear yb5_6_14 yb5_5_14 yb5_4_14 yb5_3_14 yb5_2_14 yb5_1_14 yb5_0_14 lb5_14 yb4_0_14 lb4_14 yb3_3_14 yb3_2_14 yb3_1_14 yb3_0_14 lb3_14 yb2_6_14 yb2_5_14 yb2_4_14 yb2_3_14 yb2_2_14 yb2_1_14 yb2_0_14 lb2_14 yb1_0_14 lb1_14 yb0_3_14 yb0_2_14 yb0_1_14 yb0_0_14 lb0_14 kr10_14 kc9_14 kc8_14 kw_14 s15
  clear hb12
  have kc12 : Below w12.heap.size w12 w12 := bl_refl _
  have o12H := Lib.hid o12
  clear o12
  have p12H := Lib.hid p12
  clear p12
  have z12H := Lib.hid z12
  clear z12
  with_reducible refine wpD_g (fun K hK => ?_)
  go_simp
  refine (eqSystem_same _ _ _ _ _ _ _ _ _ _ _ _ _ _ _ gs ts xs _ _ (o8H.out.rd.below RGl.stable bk_) (o12H.out.rd.below RGl.stable bk_) (p8H.out.rdTi.below RTi.stable bk_) (p12H.out.rdTi.below RTi.stable bk_) (z8H.out.rd.below RPl.stable bk_) (z12H.out.rd.below RPl.stable bk_) (by omega) (by omega) htsH.out (by omega)).mono ?_
  rintro e w13 ⟨rfl, hb13⟩
  refine ⟨_, rfl, hb13, hK _ _ ?_⟩
  clear hK K
  have s16 : w12.heap.size ≤ w13.heap.size := by have := hb13.size; (try simp at this); omega
  have s16H := Lib.hid s16
  have kw_16 : Below w.heap.size w w13 := bl_tr bk_ hb13
  have kc8_16 : Below w8.heap.size w8 w13 := bl_tr bk_ hb13
  have kc9_16 : Below w9.heap.size w9 w13 := bl_tr bk_ hb13
  have kr10_16 : Below w10.heap.size w10 w13 := bl_tr bk_ hb13
  have kc12_16 : Below w12.heap.size w12 w13 := bl_tr bk_ hb13
  have lb0_16 : w.heap.size < w13.heap.size := Nat.lt_of_lt_of_le (by go_simp) hb13.size
  have yb0_0_16 : w13.cell? ⟨w.heap.size, 0, none⟩ = some (.slice G n cg) := (hb13.cell (p := ⟨w.heap.size, 0, none⟩) (by go_simp)).trans (by go_simp)
  have yb0_1_16 : w13.cell? ⟨w.heap.size, 1, none⟩ = some (.slice T m ct) := (hb13.cell (p := ⟨w.heap.size, 1, none⟩) (by go_simp)).trans (by go_simp)
  have yb0_2_16 : w13.cell? ⟨w.heap.size, 2, none⟩ = some (.slice A q ca) := (hb13.cell (p := ⟨w.heap.size, 2, none⟩) (by go_simp)).trans (by go_simp)
  have yb0_3_16 : w13.cell? ⟨w.heap.size, 3, none⟩ = some (.int .i64 t) := (hb13.cell (p := ⟨w.heap.size, 3, none⟩) (by go_simp)).trans (by go_simp)
  have lb1_16 : w.heap.size + 1 < w13.heap.size := Nat.lt_of_lt_of_le (by go_simp) hb13.size
  have yb1_0_16 : w13.cell? ⟨w.heap.size + 1, 0, none⟩ = some (.slice C nb cb) := (hb13.cell (p := ⟨w.heap.size + 1, 0, none⟩) (by go_simp)).trans (by go_simp)
  have lb2_16 : bF3 < w13.heap.size := Nat.lt_of_lt_of_le (by go_simp) hb13.size
  have yb2_0_16 : w13.cell? ⟨bF3, 0, none⟩ = some (.int .i64 (measR gs ts xs t ys).1.tiles) := (hb13.cell (p := ⟨bF3, 0, none⟩) (by go_simp)).trans (by go_simp)
  have yb2_1_16 : w13.cell? ⟨bF3, 1, none⟩ = some (.int .i64 (measR gs ts xs t ys).1.kinds) := (hb13.cell (p := ⟨bF3, 1, none⟩) (by go_simp)).trans (by go_simp)
  have yb2_2_16 : w13.cell? ⟨bF3, 2, none⟩ = some (.int .i64 (measR gs ts xs t ys).1.glues) := (hb13.cell (p := ⟨bF3, 2, none⟩) (by go_simp)).trans (by go_simp)
  have yb2_3_16 : w13.cell? ⟨bF3, 3, none⟩ = some (.int .i64 (measR gs ts xs t ys).1.area) := (hb13.cell (p := ⟨bF3, 3, none⟩) (by go_simp)).trans (by go_simp)
  have yb2_4_16 : w13.cell? ⟨bF3, 4, none⟩ = some (.int .i64 (measR gs ts xs t ys).1.strength) := (hb13.cell (p := ⟨bF3, 4, none⟩) (by go_simp)).trans (by go_simp)
  have yb2_5_16 : w13.cell? ⟨bF3, 5, none⟩ = some (.int .i64 (measR gs ts xs t ys).1.misfits) := (hb13.cell (p := ⟨bF3, 5, none⟩) (by go_simp)).trans (by go_simp)
  have yb2_6_16 : w13.cell? ⟨bF3, 6, none⟩ = some (.int .i64 (measR gs ts xs t ys).1.slack) := (hb13.cell (p := ⟨bF3, 6, none⟩) (by go_simp)).trans (by go_simp)
  have lb3_16 : w8.heap.size < w13.heap.size := Nat.lt_of_lt_of_le (by go_simp) hb13.size
  have yb3_0_16 : w13.cell? ⟨w8.heap.size, 0, none⟩ = some (.slice G8 n n) := (hb13.cell (p := ⟨w8.heap.size, 0, none⟩) (by go_simp)).trans (by go_simp)
  have yb3_1_16 : w13.cell? ⟨w8.heap.size, 1, none⟩ = some (.slice T8 m m) := (hb13.cell (p := ⟨w8.heap.size, 1, none⟩) (by go_simp)).trans (by go_simp)
  have yb3_2_16 : w13.cell? ⟨w8.heap.size, 2, none⟩ = some (.slice A8 q q) := (hb13.cell (p := ⟨w8.heap.size, 2, none⟩) (by go_simp)).trans (by go_simp)
  have yb3_3_16 : w13.cell? ⟨w8.heap.size, 3, none⟩ = some (.int .i64 t) := (hb13.cell (p := ⟨w8.heap.size, 3, none⟩) (by go_simp)).trans (by go_simp)
  have lb4_16 : w9.heap.size < w13.heap.size := Nat.lt_of_lt_of_le (by go_simp) hb13.size
  have yb4_0_16 : w13.cell? ⟨w9.heap.size, 0, none⟩ = some (.slice A9 nb nb) := (hb13.cell (p := ⟨w9.heap.size, 0, none⟩) (by go_simp)).trans (by go_simp)
  have lb5_16 : w10.heap.size < w13.heap.size := Nat.lt_of_lt_of_le (by go_simp) hb13.size
  have yb5_0_16 : w13.cell? ⟨w10.heap.size, 0, none⟩ = some (.int .i64 (measR gs ts xs t ys).1.tiles) := (hb13.cell (p := ⟨w10.heap.size, 0, none⟩) (by go_simp)).trans (by go_simp)
  have yb5_1_16 : w13.cell? ⟨w10.heap.size, 1, none⟩ = some (.int .i64 (measR gs ts xs t ys).1.kinds) := (hb13.cell (p := ⟨w10.heap.size, 1, none⟩) (by go_simp)).trans (by go_simp)
  have yb5_2_16 : w13.cell? ⟨w10.heap.size, 2, none⟩ = some (.int .i64 (measR gs ts xs t ys).1.glues) := (hb13.cell (p := ⟨w10.heap.size, 2, none⟩) (by go_simp)).trans (by go_simp)
  have yb5_3_16 : w13.cell? ⟨w10.heap.size, 3, none⟩ = some (.int .i64 (measR gs ts xs t ys).1.area) := (hb13.cell (p := ⟨w10.heap.size, 3, none⟩) (by go_simp)).trans (by go_simp)
  have yb5_4_16 : w13.cell? ⟨w10.heap.size, 4, none⟩ = some (.int .i64 (measR gs ts xs t ys).1.strength) := (hb13.cell (p := ⟨w10.heap.size, 4, none⟩) (by go_simp)).trans (by go_simp)
  have yb5_5_16 : w13.cell? ⟨w10.heap.size, 5, none⟩ = some (.int .i64 (measR gs ts xs t ys).1.misfits) := (hb13.cell (p := ⟨w10.heap.size, 5, none⟩) (by go_simp)).trans (by go_simp)
  have yb5_6_16 : w13.cell? ⟨w10.heap.size, 6, none⟩ = some (.int .i64 (measR gs ts xs t ys).1.slack) := (hb13.cell (p := ⟨w10.heap.size, 6, none⟩) (by go_simp)).trans (by go_simp)
  clear yb5_6_15 yb5_5_15 yb5_4_15 yb5_3_15 yb5_2_15 yb5_1_15 yb5_0_15 lb5_15 yb4_0_15 lb4_15 yb3_3_15 yb3_2_15 yb3_1_15 yb3_0_15 lb3_15 yb2_6_15 yb2_5_15 yb2_4_15 yb2_3_15 yb2_2_15 yb2_1_15 yb2_0_15 lb2_15 yb1_0_15 lb1_15 yb0_3_15 yb0_2_15 yb0_1_15 yb0_0_15 lb0_15 kc12 kr10_15 kc9_15 kc8_15 kw_15 s16
  clear hb13
  repeat (first | ((with_reducible refine wpD_p (fun K hK => ?_)); go_simp; refine hK _ ?_; clear hK K) | ((with_reducible refine wpD_q (fun K hK => ?_)); go_simp; (first | refine hK _ ?_ | (go_bits; refine hK _ ?_) | (go_bits; go_simp; refine hK _ ?_)); clear hK K))
  with_reducible refine wpD_nil ?_
  go_wp2_with fail
  refine wp_region_ord [(0, .q), (1, .q), (2, .g), (3, .g), (4, .q)] (by kernel_rfl) (by kernel_rfl) ?_
  simp only [pick, List.filterMap_cons, List.filterMap_nil, List.getElem?_toArray, List.getElem?_cons_zero, List.getElem?_cons_succ, Option.map_some]
  repeat (first | ((with_reducible refine wpD_p (fun K hK => ?_)); go_simp; refine hK _ ?_; clear hK K) | ((with_reducible refine wpD_q (fun K hK => ?_)); go_simp; (first | refine hK _ ?_ | (go_bits; refine hK _ ?_) | (go_bits; go_simp; refine hK _ ?_)); clear hK K))
  with_reducible refine wpD_g (fun K hK => ?_)
  go_simp
  refine (toAssembly_any _ _ _ ys _ (hC.below RPl.stable bk_) (by omega)).mono ?_
  rintro e w14 ⟨A14, rfl, o14, hb14⟩
  refine ⟨_, rfl, hb14, hK _ _ ?_⟩
  clear hK K
  have s17 : w13.heap.size ≤ w14.heap.size := by have := hb14.size; (try simp at this); omega
  have s17H := Lib.hid s17
  have kw_17 : Below w.heap.size w w14 := bl_tr bk_ hb14
  have kc8_17 : Below w8.heap.size w8 w14 := bl_tr bk_ hb14
  have kc9_17 : Below w9.heap.size w9 w14 := bl_tr bk_ hb14
  have kr10_17 : Below w10.heap.size w10 w14 := bl_tr bk_ hb14
  have kc12_17 : Below w12.heap.size w12 w14 := bl_tr bk_ hb14
  have lb0_17 : w.heap.size < w14.heap.size := Nat.lt_of_lt_of_le (by go_simp) hb14.size
  have yb0_0_17 : w14.cell? ⟨w.heap.size, 0, none⟩ = some (.slice G n cg) := (hb14.cell (p := ⟨w.heap.size, 0, none⟩) (by go_simp)).trans (by go_simp)
  have yb0_1_17 : w14.cell? ⟨w.heap.size, 1, none⟩ = some (.slice T m ct) := (hb14.cell (p := ⟨w.heap.size, 1, none⟩) (by go_simp)).trans (by go_simp)
  have yb0_2_17 : w14.cell? ⟨w.heap.size, 2, none⟩ = some (.slice A q ca) := (hb14.cell (p := ⟨w.heap.size, 2, none⟩) (by go_simp)).trans (by go_simp)
  have yb0_3_17 : w14.cell? ⟨w.heap.size, 3, none⟩ = some (.int .i64 t) := (hb14.cell (p := ⟨w.heap.size, 3, none⟩) (by go_simp)).trans (by go_simp)
  have lb1_17 : w.heap.size + 1 < w14.heap.size := Nat.lt_of_lt_of_le (by go_simp) hb14.size
  have yb1_0_17 : w14.cell? ⟨w.heap.size + 1, 0, none⟩ = some (.slice C nb cb) := (hb14.cell (p := ⟨w.heap.size + 1, 0, none⟩) (by go_simp)).trans (by go_simp)
  have lb2_17 : bF3 < w14.heap.size := Nat.lt_of_lt_of_le (by go_simp) hb14.size
  have yb2_0_17 : w14.cell? ⟨bF3, 0, none⟩ = some (.int .i64 (measR gs ts xs t ys).1.tiles) := (hb14.cell (p := ⟨bF3, 0, none⟩) (by go_simp)).trans (by go_simp)
  have yb2_1_17 : w14.cell? ⟨bF3, 1, none⟩ = some (.int .i64 (measR gs ts xs t ys).1.kinds) := (hb14.cell (p := ⟨bF3, 1, none⟩) (by go_simp)).trans (by go_simp)
  have yb2_2_17 : w14.cell? ⟨bF3, 2, none⟩ = some (.int .i64 (measR gs ts xs t ys).1.glues) := (hb14.cell (p := ⟨bF3, 2, none⟩) (by go_simp)).trans (by go_simp)
  have yb2_3_17 : w14.cell? ⟨bF3, 3, none⟩ = some (.int .i64 (measR gs ts xs t ys).1.area) := (hb14.cell (p := ⟨bF3, 3, none⟩) (by go_simp)).trans (by go_simp)
  have yb2_4_17 : w14.cell? ⟨bF3, 4, none⟩ = some (.int .i64 (measR gs ts xs t ys).1.strength) := (hb14.cell (p := ⟨bF3, 4, none⟩) (by go_simp)).trans (by go_simp)
  have yb2_5_17 : w14.cell? ⟨bF3, 5, none⟩ = some (.int .i64 (measR gs ts xs t ys).1.misfits) := (hb14.cell (p := ⟨bF3, 5, none⟩) (by go_simp)).trans (by go_simp)
  have yb2_6_17 : w14.cell? ⟨bF3, 6, none⟩ = some (.int .i64 (measR gs ts xs t ys).1.slack) := (hb14.cell (p := ⟨bF3, 6, none⟩) (by go_simp)).trans (by go_simp)
  have lb3_17 : w8.heap.size < w14.heap.size := Nat.lt_of_lt_of_le (by go_simp) hb14.size
  have yb3_0_17 : w14.cell? ⟨w8.heap.size, 0, none⟩ = some (.slice G8 n n) := (hb14.cell (p := ⟨w8.heap.size, 0, none⟩) (by go_simp)).trans (by go_simp)
  have yb3_1_17 : w14.cell? ⟨w8.heap.size, 1, none⟩ = some (.slice T8 m m) := (hb14.cell (p := ⟨w8.heap.size, 1, none⟩) (by go_simp)).trans (by go_simp)
  have yb3_2_17 : w14.cell? ⟨w8.heap.size, 2, none⟩ = some (.slice A8 q q) := (hb14.cell (p := ⟨w8.heap.size, 2, none⟩) (by go_simp)).trans (by go_simp)
  have yb3_3_17 : w14.cell? ⟨w8.heap.size, 3, none⟩ = some (.int .i64 t) := (hb14.cell (p := ⟨w8.heap.size, 3, none⟩) (by go_simp)).trans (by go_simp)
  have lb4_17 : w9.heap.size < w14.heap.size := Nat.lt_of_lt_of_le (by go_simp) hb14.size
  have yb4_0_17 : w14.cell? ⟨w9.heap.size, 0, none⟩ = some (.slice A9 nb nb) := (hb14.cell (p := ⟨w9.heap.size, 0, none⟩) (by go_simp)).trans (by go_simp)
  have lb5_17 : w10.heap.size < w14.heap.size := Nat.lt_of_lt_of_le (by go_simp) hb14.size
  have yb5_0_17 : w14.cell? ⟨w10.heap.size, 0, none⟩ = some (.int .i64 (measR gs ts xs t ys).1.tiles) := (hb14.cell (p := ⟨w10.heap.size, 0, none⟩) (by go_simp)).trans (by go_simp)
  have yb5_1_17 : w14.cell? ⟨w10.heap.size, 1, none⟩ = some (.int .i64 (measR gs ts xs t ys).1.kinds) := (hb14.cell (p := ⟨w10.heap.size, 1, none⟩) (by go_simp)).trans (by go_simp)
  have yb5_2_17 : w14.cell? ⟨w10.heap.size, 2, none⟩ = some (.int .i64 (measR gs ts xs t ys).1.glues) := (hb14.cell (p := ⟨w10.heap.size, 2, none⟩) (by go_simp)).trans (by go_simp)
  have yb5_3_17 : w14.cell? ⟨w10.heap.size, 3, none⟩ = some (.int .i64 (measR gs ts xs t ys).1.area) := (hb14.cell (p := ⟨w10.heap.size, 3, none⟩) (by go_simp)).trans (by go_simp)
  have yb5_4_17 : w14.cell? ⟨w10.heap.size, 4, none⟩ = some (.int .i64 (measR gs ts xs t ys).1.strength) := (hb14.cell (p := ⟨w10.heap.size, 4, none⟩) (by go_simp)).trans (by go_simp)
  have yb5_5_17 : w14.cell? ⟨w10.heap.size, 5, none⟩ = some (.int .i64 (measR gs ts xs t ys).1.misfits) := (hb14.cell (p := ⟨w10.heap.size, 5, none⟩) (by go_simp)).trans (by go_simp)
  have yb5_6_17 : w14.cell? ⟨w10.heap.size, 6, none⟩ = some (.int .i64 (measR gs ts xs t ys).1.slack) := (hb14.cell (p := ⟨w10.heap.size, 6, none⟩) (by go_simp)).trans (by go_simp)
  clear yb5_6_16 yb5_5_16 yb5_4_16 yb5_3_16 yb5_2_16 yb5_1_16 yb5_0_16 lb5_16 yb4_0_16 lb4_16 yb3_3_16 yb3_2_16 yb3_1_16 yb3_0_16 lb3_16 yb2_6_16 yb2_5_16 yb2_4_16 yb2_3_16 yb2_2_16 yb2_1_16 yb2_0_16 lb2_16 yb1_0_16 lb1_16 yb0_3_16 yb0_2_16 yb0_1_16 yb0_0_16 lb0_16 kc12_16 kr10_16 kc9_16 kc8_16 kw_16 s17
  clear hb14
  have kc14 : Below w14.heap.size w14 w14 := bl_refl _
  have o14H := Lib.hid o14
  clear o14
  with_reducible refine wpD_g (fun K hK => ?_)
  go_simp
  refine (eqAssembly_same _ _ _ _ _ ys _ (o9H.out.rd.below RPl.stable bk_) (o14H.out.rd.below RPl.stable bk_) (by omega)).mono ?_
  rintro e w15 ⟨rfl, hb15⟩
  refine ⟨_, rfl, hb15, hK _ _ ?_⟩
  clear hK K
  have s18 : w14.heap.size ≤ w15.heap.size := by have := hb15.size; (try simp at this); omega
  have s18H := Lib.hid s18
  have kw_18 : Below w.heap.size w w15 := bl_tr bk_ hb15
  have kc8_18 : Below w8.heap.size w8 w15 := bl_tr bk_ hb15
  have kc9_18 : Below w9.heap.size w9 w15 := bl_tr bk_ hb15
  have kr10_18 : Below w10.heap.size w10 w15 := bl_tr bk_ hb15
  have kc12_18 : Below w12.heap.size w12 w15 := bl_tr bk_ hb15
  have kc14_18 : Below w14.heap.size w14 w15 := bl_tr bk_ hb15
  have lb0_18 : w.heap.size < w15.heap.size := Nat.lt_of_lt_of_le (by go_simp) hb15.size
  have yb0_0_18 : w15.cell? ⟨w.heap.size, 0, none⟩ = some (.slice G n cg) := (hb15.cell (p := ⟨w.heap.size, 0, none⟩) (by go_simp)).trans (by go_simp)
  have yb0_1_18 : w15.cell? ⟨w.heap.size, 1, none⟩ = some (.slice T m ct) := (hb15.cell (p := ⟨w.heap.size, 1, none⟩) (by go_simp)).trans (by go_simp)
  have yb0_2_18 : w15.cell? ⟨w.heap.size, 2, none⟩ = some (.slice A q ca) := (hb15.cell (p := ⟨w.heap.size, 2, none⟩) (by go_simp)).trans (by go_simp)
  have yb0_3_18 : w15.cell? ⟨w.heap.size, 3, none⟩ = some (.int .i64 t) := (hb15.cell (p := ⟨w.heap.size, 3, none⟩) (by go_simp)).trans (by go_simp)
  have lb1_18 : w.heap.size + 1 < w15.heap.size := Nat.lt_of_lt_of_le (by go_simp) hb15.size
  have yb1_0_18 : w15.cell? ⟨w.heap.size + 1, 0, none⟩ = some (.slice C nb cb) := (hb15.cell (p := ⟨w.heap.size + 1, 0, none⟩) (by go_simp)).trans (by go_simp)
  have lb2_18 : bF3 < w15.heap.size := Nat.lt_of_lt_of_le (by go_simp) hb15.size
  have yb2_0_18 : w15.cell? ⟨bF3, 0, none⟩ = some (.int .i64 (measR gs ts xs t ys).1.tiles) := (hb15.cell (p := ⟨bF3, 0, none⟩) (by go_simp)).trans (by go_simp)
  have yb2_1_18 : w15.cell? ⟨bF3, 1, none⟩ = some (.int .i64 (measR gs ts xs t ys).1.kinds) := (hb15.cell (p := ⟨bF3, 1, none⟩) (by go_simp)).trans (by go_simp)
  have yb2_2_18 : w15.cell? ⟨bF3, 2, none⟩ = some (.int .i64 (measR gs ts xs t ys).1.glues) := (hb15.cell (p := ⟨bF3, 2, none⟩) (by go_simp)).trans (by go_simp)
  have yb2_3_18 : w15.cell? ⟨bF3, 3, none⟩ = some (.int .i64 (measR gs ts xs t ys).1.area) := (hb15.cell (p := ⟨bF3, 3, none⟩) (by go_simp)).trans (by go_simp)
  have yb2_4_18 : w15.cell? ⟨bF3, 4, none⟩ = some (.int .i64 (measR gs ts xs t ys).1.strength) := (hb15.cell (p := ⟨bF3, 4, none⟩) (by go_simp)).trans (by go_simp)
  have yb2_5_18 : w15.cell? ⟨bF3, 5, none⟩ = some (.int .i64 (measR gs ts xs t ys).1.misfits) := (hb15.cell (p := ⟨bF3, 5, none⟩) (by go_simp)).trans (by go_simp)
  have yb2_6_18 : w15.cell? ⟨bF3, 6, none⟩ = some (.int .i64 (measR gs ts xs t ys).1.slack) := (hb15.cell (p := ⟨bF3, 6, none⟩) (by go_simp)).trans (by go_simp)
  have lb3_18 : w8.heap.size < w15.heap.size := Nat.lt_of_lt_of_le (by go_simp) hb15.size
  have yb3_0_18 : w15.cell? ⟨w8.heap.size, 0, none⟩ = some (.slice G8 n n) := (hb15.cell (p := ⟨w8.heap.size, 0, none⟩) (by go_simp)).trans (by go_simp)
  have yb3_1_18 : w15.cell? ⟨w8.heap.size, 1, none⟩ = some (.slice T8 m m) := (hb15.cell (p := ⟨w8.heap.size, 1, none⟩) (by go_simp)).trans (by go_simp)
  have yb3_2_18 : w15.cell? ⟨w8.heap.size, 2, none⟩ = some (.slice A8 q q) := (hb15.cell (p := ⟨w8.heap.size, 2, none⟩) (by go_simp)).trans (by go_simp)
  have yb3_3_18 : w15.cell? ⟨w8.heap.size, 3, none⟩ = some (.int .i64 t) := (hb15.cell (p := ⟨w8.heap.size, 3, none⟩) (by go_simp)).trans (by go_simp)
  have lb4_18 : w9.heap.size < w15.heap.size := Nat.lt_of_lt_of_le (by go_simp) hb15.size
  have yb4_0_18 : w15.cell? ⟨w9.heap.size, 0, none⟩ = some (.slice A9 nb nb) := (hb15.cell (p := ⟨w9.heap.size, 0, none⟩) (by go_simp)).trans (by go_simp)
  have lb5_18 : w10.heap.size < w15.heap.size := Nat.lt_of_lt_of_le (by go_simp) hb15.size
  have yb5_0_18 : w15.cell? ⟨w10.heap.size, 0, none⟩ = some (.int .i64 (measR gs ts xs t ys).1.tiles) := (hb15.cell (p := ⟨w10.heap.size, 0, none⟩) (by go_simp)).trans (by go_simp)
  have yb5_1_18 : w15.cell? ⟨w10.heap.size, 1, none⟩ = some (.int .i64 (measR gs ts xs t ys).1.kinds) := (hb15.cell (p := ⟨w10.heap.size, 1, none⟩) (by go_simp)).trans (by go_simp)
  have yb5_2_18 : w15.cell? ⟨w10.heap.size, 2, none⟩ = some (.int .i64 (measR gs ts xs t ys).1.glues) := (hb15.cell (p := ⟨w10.heap.size, 2, none⟩) (by go_simp)).trans (by go_simp)
  have yb5_3_18 : w15.cell? ⟨w10.heap.size, 3, none⟩ = some (.int .i64 (measR gs ts xs t ys).1.area) := (hb15.cell (p := ⟨w10.heap.size, 3, none⟩) (by go_simp)).trans (by go_simp)
  have yb5_4_18 : w15.cell? ⟨w10.heap.size, 4, none⟩ = some (.int .i64 (measR gs ts xs t ys).1.strength) := (hb15.cell (p := ⟨w10.heap.size, 4, none⟩) (by go_simp)).trans (by go_simp)
  have yb5_5_18 : w15.cell? ⟨w10.heap.size, 5, none⟩ = some (.int .i64 (measR gs ts xs t ys).1.misfits) := (hb15.cell (p := ⟨w10.heap.size, 5, none⟩) (by go_simp)).trans (by go_simp)
  have yb5_6_18 : w15.cell? ⟨w10.heap.size, 6, none⟩ = some (.int .i64 (measR gs ts xs t ys).1.slack) := (hb15.cell (p := ⟨w10.heap.size, 6, none⟩) (by go_simp)).trans (by go_simp)
  clear yb5_6_17 yb5_5_17 yb5_4_17 yb5_3_17 yb5_2_17 yb5_1_17 yb5_0_17 lb5_17 yb4_0_17 lb4_17 yb3_3_17 yb3_2_17 yb3_1_17 yb3_0_17 lb3_17 yb2_6_17 yb2_5_17 yb2_4_17 yb2_3_17 yb2_2_17 yb2_1_17 yb2_0_17 lb2_17 yb1_0_17 lb1_17 yb0_3_17 yb0_2_17 yb0_1_17 yb0_0_17 lb0_17 kc14 kc12_17 kr10_17 kc9_17 kc8_17 kw_17 s18
  clear hb15
  repeat (first | ((with_reducible refine wpD_p (fun K hK => ?_)); go_simp; refine hK _ ?_; clear hK K) | ((with_reducible refine wpD_q (fun K hK => ?_)); go_simp; (first | refine hK _ ?_ | (go_bits; refine hK _ ?_) | (go_bits; go_simp; refine hK _ ?_)); clear hK K))
  with_reducible refine wpD_nil ?_
  go_wp2_with fail
  go_ret
  exact ⟨rfl, bk_⟩
end Go.Proofs.YtmpmokefgdjnkaaGreat
