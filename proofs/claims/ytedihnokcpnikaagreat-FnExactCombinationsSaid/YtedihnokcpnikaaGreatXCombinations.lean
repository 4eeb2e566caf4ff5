/- Walk: the law FnExactCombinations. -/
import Derived.Test.YtedihnokcpnikaaGreatKV
import Derived.Test.YtedihnokcpnikaaGreatKE
import Derived.Test.YtedihnokcpnikaaGreatKH
namespace Go.Proofs.YtedihnokcpnikaaGreat
open Go.RowKit
set_option linter.unusedSimpArgs false
set_option linter.unusedVariables false
attribute [local go_sem] BelowBy.cell BelowBy.cell_drew stillUpon givesUpon BelowBy.cell_drew2 BelowBy.cell_drew3

set_option maxRecDepth 100000 in
set_option maxHeartbeats 4000000 in
theorem FnExactCombinations_any (G : Option Addr) (n cg : Nat) (gs : List Gl) (T : Option Addr) (m ct : Nat) (ts : List Ti) (tt : Int) (A : Option Addr) (q ca : Nat) (xs : List Pl) (C : Option Addr) (nb cb : Nat) (ys : List Pl) (w : World) (hG : RdSl 2 RGl w G n gs) (hT : RdSl 2 RTi w T m ts) (hln : n ≤ 9223372036854775807) (hlm : m ≤ 9223372036854775807) (hgn : ∀ e ∈ gs, e.name.size ≤ 9223372036854775807) (htn : ∀ e ∈ ts, e.name.size ≤ 9223372036854775807 ∧ e.sides.length ≤ 9223372036854775807)  (hA : RdSl 3 RPl w A q xs) (hlq : q ≤ 9223372036854775807) (hC : RdSl 3 RPl w C nb ys) (hlnb : nb ≤ 9223372036854775807) :
    Calls Tryz.prog 4 #[.agg #[.slice G n cg, .slice T m ct], .int .i64 tt, .agg #[.slice A q ca], .agg #[.slice C nb cb]] w fun e w' => e = .returned (.bool true) ∧ Below w.heap.size w w' := by
  have hgnH := Lib.hid hgn
  have htnH := Lib.hid htn
  have hgk := Lib.hid (fun (k : Nat) (e : Gl) (h : gs[k]? = some e) => hgn e (List.mem_of_getElem? h))
  have htk := Lib.hid (fun (k : Nat) (e : Ti) (h : ts[k]? = some e) => htn e (List.mem_of_getElem? h))
  clear hgn htn
  have hRl := Lib.hid (combosR_len gs ts xs ys tt)
  go_enter Tryz.func4, Tryz.ntmps4
  have kw := bl_refl w
  go_wp2_with fail
  refine (szTileSet_any _ _ _ _ _ _ gs ts _ _ (hG.below RGl.stable bk_) (hT.below RTi.stable bk_) (by omega) (by omega) hln hlm hgnH.out htnH.out).mono ?_
  rintro e w1 ⟨r1, rfl, (rfl | ⟨hr10, hr11, ⟨hzn, hx1⟩, hzm, hx2⟩), hb1⟩
  · go_wp2
    go_ret
    exact ⟨rfl, bl_tr bk_ hb1⟩
  have htsH := Lib.hid (show ∀ e ∈ ts, e.sides.length ≤ 1073741824 from fun e he => by have := (hx2 e he).2; omega)
  clear hx1 hx2
  have s1 : w.heap.size + 3 ≤ w1.heap.size := by have := hb1.size; (try simp at this); omega
  have s1H := Lib.hid s1
  have kw_1 : Below w.heap.size w w1 := bl_tr bk_ hb1
  have lb0_1 : w.heap.size < w1.heap.size := Nat.lt_of_lt_of_le (by go_simp) hb1.size
  have yb0_0_1 : w1.cell? ⟨w.heap.size, 0, none⟩ = some (.slice G n cg) := (hb1.cell (p := ⟨w.heap.size, 0, none⟩) (by go_simp)).trans (by go_simp)
  have yb0_1_1 : w1.cell? ⟨w.heap.size, 1, none⟩ = some (.slice T m ct) := (hb1.cell (p := ⟨w.heap.size, 1, none⟩) (by go_simp)).trans (by go_simp)
  have lb1_1 : w.heap.size + 1 < w1.heap.size := Nat.lt_of_lt_of_le (by go_simp) hb1.size
  have yb1_0_1 : w1.cell? ⟨w.heap.size + 1, 0, none⟩ = some (.slice A q ca) := (hb1.cell (p := ⟨w.heap.size + 1, 0, none⟩) (by go_simp)).trans (by go_simp)
  have lb2_1 : w.heap.size + 2 < w1.heap.size := Nat.lt_of_lt_of_le (by go_simp) hb1.size
  have yb2_0_1 : w1.cell? ⟨w.heap.size + 2, 0, none⟩ = some (.slice C nb cb) := (hb1.cell (p := ⟨w.heap.size + 2, 0, none⟩) (by go_simp)).trans (by go_simp)
  clear kw s1
  clear hb1
  go_wp2_with fail
  refine (szAssembly_any _ _ _ _ _ (by omega) (by omega) hlq).mono ?_
  rintro e w2 ⟨r2, rfl, (rfl | ⟨hr20, hr21, hzq⟩), hb2⟩
  · go_wp2
    go_ret
    exact ⟨rfl, bl_tr bk_ hb2⟩
  have s2 : w1.heap.size ≤ w2.heap.size := by have := hb2.size; (try simp at this); omega
  have s2H := Lib.hid s2
  have kw_2 : Below w.heap.size w w2 := bl_tr bk_ hb2
  have lb0_2 : w.heap.size < w2.heap.size := Nat.lt_of_lt_of_le (by go_simp) hb2.size
  have yb0_0_2 : w2.cell? ⟨w.heap.size, 0, none⟩ = some (.slice G n cg) := (hb2.cell (p := ⟨w.heap.size, 0, none⟩) (by go_simp)).trans (by go_simp)
  have yb0_1_2 : w2.cell? ⟨w.heap.size, 1, none⟩ = some (.slice T m ct) := (hb2.cell (p := ⟨w.heap.size, 1, none⟩) (by go_simp)).trans (by go_simp)
  have lb1_2 : w.heap.size + 1 < w2.heap.size := Nat.lt_of_lt_of_le (by go_simp) hb2.size
  have yb1_0_2 : w2.cell? ⟨w.heap.size + 1, 0, none⟩ = some (.slice A q ca) := (hb2.cell (p := ⟨w.heap.size + 1, 0, none⟩) (by go_simp)).trans (by go_simp)
  have lb2_2 : w.heap.size + 2 < w2.heap.size := Nat.lt_of_lt_of_le (by go_simp) hb2.size
  have yb2_0_2 : w2.cell? ⟨w.heap.size + 2, 0, none⟩ = some (.slice C nb cb) := (hb2.cell (p := ⟨w.heap.size + 2, 0, none⟩) (by go_simp)).trans (by go_simp)
  clear yb2_0_1 lb2_1 yb1_0_1 lb1_1 yb0_1_1 yb0_0_1 lb0_1 kw_1 s2
  clear hb2
  go_wp2_with fail
  refine (szAssembly_any _ _ _ _ _ (by omega) (by omega) hlnb).mono ?_
  rintro e w3 ⟨r3, rfl, (rfl | ⟨hr30, hr31, hznb⟩), hb3⟩
  · go_wp2
    go_ret
    exact ⟨rfl, bl_tr bk_ hb3⟩
  have s3 : w2.heap.size ≤ w3.heap.size := by have := hb3.size; (try simp at this); omega
  have s3H := Lib.hid s3
  have kw_3 : Below w.heap.size w w3 := bl_tr bk_ hb3
  have lb0_3 : w.heap.size < w3.heap.size := Nat.lt_of_lt_of_le (by go_simp) hb3.size
  have yb0_0_3 : w3.cell? ⟨w.heap.size, 0, none⟩ = some (.slice G n cg) := (hb3.cell (p := ⟨w.heap.size, 0, none⟩) (by go_simp)).trans (by go_simp)
  have yb0_1_3 : w3.cell? ⟨w.heap.size, 1, none⟩ = some (.slice T m ct) := (hb3.cell (p := ⟨w.heap.size, 1, none⟩) (by go_simp)).trans (by go_simp)
  have lb1_3 : w.heap.size + 1 < w3.heap.size := Nat.lt_of_lt_of_le (by go_simp) hb3.size
  have yb1_0_3 : w3.cell? ⟨w.heap.size + 1, 0, none⟩ = some (.slice A q ca) := (hb3.cell (p := ⟨w.heap.size + 1, 0, none⟩) (by go_simp)).trans (by go_simp)
  have lb2_3 : w.heap.size + 2 < w3.heap.size := Nat.lt_of_lt_of_le (by go_simp) hb3.size
  have yb2_0_3 : w3.cell? ⟨w.heap.size + 2, 0, none⟩ = some (.slice C nb cb) := (hb3.cell (p := ⟨w.heap.size + 2, 0, none⟩) (by go_simp)).trans (by go_simp)
  clear yb2_0_2 lb2_2 yb1_0_2 lb1_2 yb0_1_2 yb0_0_2 lb0_2 kw_2 s3
  clear hb3
  go_wp2_with fail
  refine wp_region_ord [(0, .q), (2, .q), (3, .q), (5, .q), (1, .g), (4, .g), (6, .g), (7, .g), (8, .q), (9, .q), (10, .q), (11, .q), (12, .q)] (by kernel_rfl) (by kernel_rfl) ?_
  simp only [pick, List.filterMap_cons, List.filterMap_nil, List.getElem?_toArray, List.getElem?_cons_zero, List.getElem?_cons_succ, Option.map_some]
  repeat (first | ((with_reducible refine wpD_p (fun K hK => ?_)); go_simp; refine hK _ ?_; clear hK K) | ((with_reducible refine wpD_q (fun K hK => ?_)); go_simp; (first | refine hK _ ?_ | (go_bits; refine hK _ ?_) | (go_bits; go_simp; refine hK _ ?_)); clear hK K))
  with_reducible refine wpD_g (fun K hK => ?_)
  go_simp
  refine (toTileSet_any _ _ _ _ _ _ gs ts _ (hG.below RGl.stable bk_) (hT.below RTi.stable bk_) (by omega) (by omega) htsH.out).mono ?_
  rintro e w4 ⟨G4, T4, rfl, o4, p4, hb4⟩
  refine ⟨_, rfl, hb4, hK _ _ ?_⟩
  clear hK K
  have s4 : w3.heap.size ≤ w4.heap.size := by have := hb4.size; (try simp at this); omega
  have s4H := Lib.hid s4
  have kw_4 : Below w.heap.size w w4 := bl_tr bk_ hb4
  have lb0_4 : w.heap.size < w4.heap.size := Nat.lt_of_lt_of_le (by go_simp) hb4.size
  have yb0_0_4 : w4.cell? ⟨w.heap.size, 0, none⟩ = some (.slice G n cg) := (hb4.cell (p := ⟨w.heap.size, 0, none⟩) (by go_simp)).trans (by go_simp)
  have yb0_1_4 : w4.cell? ⟨w.heap.size, 1, none⟩ = some (.slice T m ct) := (hb4.cell (p := ⟨w.heap.size, 1, none⟩) (by go_simp)).trans (by go_simp)
  have lb1_4 : w.heap.size + 1 < w4.heap.size := Nat.lt_of_lt_of_le (by go_simp) hb4.size
  have yb1_0_4 : w4.cell? ⟨w.heap.size + 1, 0, none⟩ = some (.slice A q ca) := (hb4.cell (p := ⟨w.heap.size + 1, 0, none⟩) (by go_simp)).trans (by go_simp)
  have lb2_4 : w.heap.size + 2 < w4.heap.size := Nat.lt_of_lt_of_le (by go_simp) hb4.size
  have yb2_0_4 : w4.cell? ⟨w.heap.size + 2, 0, none⟩ = some (.slice C nb cb) := (hb4.cell (p := ⟨w.heap.size + 2, 0, none⟩) (by go_simp)).trans (by go_simp)
  clear yb2_0_3 lb2_3 yb1_0_3 lb1_3 yb0_1_3 yb0_0_3 lb0_3 kw_3 s4
  clear hb4
  have kc4 : Below w4.heap.size w4 w4 := bl_refl _
  have o4H := Lib.hid o4
  clear o4
  have p4H := Lib.hid p4
  clear p4
  with_reducible refine wpD_g (fun K hK => ?_)
  go_simp
  refine (toAssembly_any _ _ _ xs _ (hA.below RPl.stable bk_) (by omega)).mono ?_
  rintro e w5 ⟨A5, rfl, o5, hb5⟩
  refine ⟨_, rfl, hb5, hK _ _ ?_⟩
  clear hK K
  have s5 : w4.heap.size ≤ w5.heap.size := by have := hb5.size; (try simp at this); omega
  have s5H := Lib.hid s5
  have kw_5 : Below w.heap.size w w5 := bl_tr bk_ hb5
  have kc4_5 : Below w4.heap.size w4 w5 := bl_tr bk_ hb5
  have lb0_5 : w.heap.size < w5.heap.size := Nat.lt_of_lt_of_le (by go_simp) hb5.size
  have yb0_0_5 : w5.cell? ⟨w.heap.size, 0, none⟩ = some (.slice G n cg) := (hb5.cell (p := ⟨w.heap.size, 0, none⟩) (by go_simp)).trans (by go_simp)
  have yb0_1_5 : w5.cell? ⟨w.heap.size, 1, none⟩ = some (.slice T m ct) := (hb5.cell (p := ⟨w.heap.size, 1, none⟩) (by go_simp)).trans (by go_simp)
  have lb1_5 : w.heap.size + 1 < w5.heap.size := Nat.lt_of_lt_of_le (by go_simp) hb5.size
  have yb1_0_5 : w5.cell? ⟨w.heap.size + 1, 0, none⟩ = some (.slice A q ca) := (hb5.cell (p := ⟨w.heap.size + 1, 0, none⟩) (by go_simp)).trans (by go_simp)
  have lb2_5 : w.heap.size + 2 < w5.heap.size := Nat.lt_of_lt_of_le (by go_simp) hb5.size
  have yb2_0_5 : w5.cell? ⟨w.heap.size + 2, 0, none⟩ = some (.slice C nb cb) := (hb5.cell (p := ⟨w.heap.size + 2, 0, none⟩) (by go_simp)).trans (by go_simp)
  clear yb2_0_4 lb2_4 yb1_0_4 lb1_4 yb0_1_4 yb0_0_4 lb0_4 kc4 kw_4 s5
  clear hb5
  have kc5 : Below w5.heap.size w5 w5 := bl_refl _
  have o5H := Lib.hid o5
  clear o5
  with_reducible refine wpD_g (fun K hK => ?_)
  go_simp
  refine (toAssembly_any _ _ _ ys _ (hC.below RPl.stable bk_) (by omega)).mono ?_
  rintro e w6 ⟨A6, rfl, o6, hb6⟩
  refine ⟨_, rfl, hb6, hK _ _ ?_⟩
  clear hK K
  have s6 : w5.heap.size ≤ w6.heap.size := by have := hb6.size; (try simp at this); omega
  have s6H := Lib.hid s6
  have kw_6 : Below w.heap.size w w6 := bl_tr bk_ hb6
  have kc4_6 : Below w4.heap.size w4 w6 := bl_tr bk_ hb6
  have kc5_6 : Below w5.heap.size w5 w6 := bl_tr bk_ hb6
  have lb0_6 : w.heap.size < w6.heap.size := Nat.lt_of_lt_of_le (by go_simp) hb6.size
  have yb0_0_6 : w6.cell? ⟨w.heap.size, 0, none⟩ = some (.slice G n cg) := (hb6.cell (p := ⟨w.heap.size, 0, none⟩) (by go_simp)).trans (by go_simp)
  have yb0_1_6 : w6.cell? ⟨w.heap.size, 1, none⟩ = some (.slice T m ct) := (hb6.cell (p := ⟨w.heap.size, 1, none⟩) (by go_simp)).trans (by go_simp)
  have lb1_6 : w.heap.size + 1 < w6.heap.size := Nat.lt_of_lt_of_le (by go_simp) hb6.size
  have yb1_0_6 : w6.cell? ⟨w.heap.size + 1, 0, none⟩ = some (.slice A q ca) := (hb6.cell (p := ⟨w.heap.size + 1, 0, none⟩) (by go_simp)).trans (by go_simp)
  have lb2_6 : w.heap.size + 2 < w6.heap.size := Nat.lt_of_lt_of_le (by go_simp) hb6.size
  have yb2_0_6 : w6.cell? ⟨w.heap.size + 2, 0, none⟩ = some (.slice C nb cb) := (hb6.cell (p := ⟨w.heap.size + 2, 0, none⟩) (by go_simp)).trans (by go_simp)
  clear yb2_0_5 lb2_5 yb1_0_5 lb1_5 yb0_1_5 yb0_0_5 lb0_5 kc5 kc4_5 kw_5 s6
  clear hb6
  have kc6 : Below w6.heap.size w6 w6 := bl_refl _
  have o6H := Lib.hid o6
  clear o6
  with_reducible refine wpD_g (fun K hK => ?_)
  go_simp
  refine (sCombinations_any _ _ _ _ _ _ _ _ _ _ _ _ gs ts xs ys tt _ ⟨o4H.out.rd.below RGl.stable bk_, p4H.out.rdTi.below RTi.stable bk_, o5H.out.rd.below RPl.stable bk_, by omega, by omega, by omega, hgk.out, htk.out⟩ ⟨o4H.out.rd.below RGl.stable bk_, p4H.out.rdTi.below RTi.stable bk_, o6H.out.rd.below RPl.stable bk_, by omega, by omega, by omega, hgk.out, htk.out⟩).mono ?_
  rintro e w7 ⟨V7, c7, rfl, v7, hb7⟩
  refine ⟨_, rfl, hb7, hK _ _ ?_⟩
  clear hK K
  have s7 : w6.heap.size ≤ w7.heap.size := by have := hb7.size; (try simp at this); omega
  have s7H := Lib.hid s7
  have kw_7 : Below w.heap.size w w7 := bl_tr bk_ hb7
  have kc4_7 : Below w4.heap.size w4 w7 := bl_tr bk_ hb7
  have kc5_7 : Below w5.heap.size w5 w7 := bl_tr bk_ hb7
  have kc6_7 : Below w6.heap.size w6 w7 := bl_tr bk_ hb7
  have lb0_7 : w.heap.size < w7.heap.size := Nat.lt_of_lt_of_le (by go_simp) hb7.size
  have yb0_0_7 : w7.cell? ⟨w.heap.size, 0, none⟩ = some (.slice G n cg) := (hb7.cell (p := ⟨w.heap.size, 0, none⟩) (by go_simp)).trans (by go_simp)
  have yb0_1_7 : w7.cell? ⟨w.heap.size, 1, none⟩ = some (.slice T m ct) := (hb7.cell (p := ⟨w.heap.size, 1, none⟩) (by go_simp)).trans (by go_simp)
  have lb1_7 : w.heap.size + 1 < w7.heap.size := Nat.lt_of_lt_of_le (by go_simp) hb7.size
  have yb1_0_7 : w7.cell? ⟨w.heap.size + 1, 0, none⟩ = some (.slice A q ca) := (hb7.cell (p := ⟨w.heap.size + 1, 0, none⟩) (by go_simp)).trans (by go_simp)
  have lb2_7 : w.heap.size + 2 < w7.heap.size := Nat.lt_of_lt_of_le (by go_simp) hb7.size
  have yb2_0_7 : w7.cell? ⟨w.heap.size + 2, 0, none⟩ = some (.slice C nb cb) := (hb7.cell (p := ⟨w.heap.size + 2, 0, none⟩) (by go_simp)).trans (by go_simp)
  clear yb2_0_6 lb2_6 yb1_0_6 lb1_6 yb0_1_6 yb0_0_6 lb0_6 kc6 kc5_6 kc4_6 kw_6 s7
  clear hb7
  have kr7 : Below w7.heap.size w7 w7 := bl_refl _
  have v7H := Lib.hid v7
  clear v7
  repeat (first | ((with_reducible refine wpD_p (fun K hK => ?_)); go_simp; refine hK _ ?_; clear hK K) | ((with_reducible refine wpD_q (fun K hK => ?_)); go_simp; (first | refine hK _ ?_ | (go_bits; refine hK _ ?_) | (go_bits; go_simp; refine hK _ ?_)); clear hK K))
  with_reducible refine wpD_nil ?_
  go_wp2_with fail
  refine (toTileSet_any _ _ _ _ _ _ gs ts _ (hG.below RGl.stable bk_) (hT.below RTi.stable bk_) (by omega) (by omega) htsH.out).mono ?_
  rintro e w8 ⟨G8, T8, rfl, o8, p8, hb8⟩
  have s8 : w7.heap.size ≤ w8.heap.size := by have := hb8.size; (try simp at this); omega
  have s8H := Lib.hid s8
  have kw_8 : Below w.heap.size w w8 := bl_tr bk_ hb8
  have kc4_8 : Below w4.heap.size w4 w8 := bl_tr bk_ hb8
  have kc5_8 : Below w5.heap.size w5 w8 := bl_tr bk_ hb8
  have kc6_8 : Below w6.heap.size w6 w8 := bl_tr bk_ hb8
  have kr7_8 : Below w7.heap.size w7 w8 := bl_tr bk_ hb8
  have lb0_8 : w.heap.size < w8.heap.size := Nat.lt_of_lt_of_le (by go_simp) hb8.size
  have yb0_0_8 : w8.cell? ⟨w.heap.size, 0, none⟩ = some (.slice G n cg) := (hb8.cell (p := ⟨w.heap.size, 0, none⟩) (by go_simp)).trans (by go_simp)
  have yb0_1_8 : w8.cell? ⟨w.heap.size, 1, none⟩ = some (.slice T m ct) := (hb8.cell (p := ⟨w.heap.size, 1, none⟩) (by go_simp)).trans (by go_simp)
  have lb1_8 : w.heap.size + 1 < w8.heap.size := Nat.lt_of_lt_of_le (by go_simp) hb8.size
  have yb1_0_8 : w8.cell? ⟨w.heap.size + 1, 0, none⟩ = some (.slice A q ca) := (hb8.cell (p := ⟨w.heap.size + 1, 0, none⟩) (by go_simp)).trans (by go_simp)
  have lb2_8 : w.heap.size + 2 < w8.heap.size := Nat.lt_of_lt_of_le (by go_simp) hb8.size
  have yb2_0_8 : w8.cell? ⟨w.heap.size + 2, 0, none⟩ = some (.slice C nb cb) := (hb8.cell (p := ⟨w.heap.size + 2, 0, none⟩) (by go_simp)).trans (by go_simp)
  clear yb2_0_7 lb2_7 yb1_0_7 lb1_7 yb0_1_7 yb0_0_7 lb0_7 kr7 kc6_7 kc5_7 kc4_7 kw_7 s8
  clear hb8
  have kc8 : Below w8.heap.size w8 w8 := bl_refl _
  have o8H := Lib.hid o8
  clear o8
  have p8H := Lib.hid p8
  clear p8
  go_wp2_with fail
  refine (toAssembly_any _ _ _ xs _ (hA.below RPl.stable bk_) (by omega)).mono ?_
  rintro e w9 ⟨A9, rfl, o9, hb9⟩
  have s9 : w8.heap.size + 1 ≤ w9.heap.size := by have := hb9.size; (try simp at this); omega
  have s9H := Lib.hid s9
  have kw_9 : Below w.heap.size w w9 := bl_tr bk_ hb9
  have kc4_9 : Below w4.heap.size w4 w9 := bl_tr bk_ hb9
  have kc5_9 : Below w5.heap.size w5 w9 := bl_tr bk_ hb9
  have kc6_9 : Below w6.heap.size w6 w9 := bl_tr bk_ hb9
  have kr7_9 : Below w7.heap.size w7 w9 := bl_tr bk_ hb9
  have kc8_9 : Below w8.heap.size w8 w9 := bl_tr bk_ hb9
  have lb0_9 : w.heap.size < w9.heap.size := Nat.lt_of_lt_of_le (by go_simp) hb9.size
  have yb0_0_9 : w9.cell? ⟨w.heap.size, 0, none⟩ = some (.slice G n cg) := (hb9.cell (p := ⟨w.heap.size, 0, none⟩) (by go_simp)).trans (by go_simp)
  have yb0_1_9 : w9.cell? ⟨w.heap.size, 1, none⟩ = some (.slice T m ct) := (hb9.cell (p := ⟨w.heap.size, 1, none⟩) (by go_simp)).trans (by go_simp)
  have lb1_9 : w.heap.size + 1 < w9.heap.size := Nat.lt_of_lt_of_le (by go_simp) hb9.size
  have yb1_0_9 : w9.cell? ⟨w.heap.size + 1, 0, none⟩ = some (.slice A q ca) := (hb9.cell (p := ⟨w.heap.size + 1, 0, none⟩) (by go_simp)).trans (by go_simp)
  have lb2_9 : w.heap.size + 2 < w9.heap.size := Nat.lt_of_lt_of_le (by go_simp) hb9.size
  have yb2_0_9 : w9.cell? ⟨w.heap.size + 2, 0, none⟩ = some (.slice C nb cb) := (hb9.cell (p := ⟨w.heap.size + 2, 0, none⟩) (by go_simp)).trans (by go_simp)
  have lb3_9 : w8.heap.size < w9.heap.size := Nat.lt_of_lt_of_le (by go_simp) hb9.size
  have yb3_0_9 : w9.cell? ⟨w8.heap.size, 0, none⟩ = some (.slice G8 n n) := (hb9.cell (p := ⟨w8.heap.size, 0, none⟩) (by go_simp)).trans (by go_simp)
  have yb3_1_9 : w9.cell? ⟨w8.heap.size, 1, none⟩ = some (.slice T8 m m) := (hb9.cell (p := ⟨w8.heap.size, 1, none⟩) (by go_simp)).trans (by go_simp)
  clear yb2_0_8 lb2_8 yb1_0_8 lb1_8 yb0_1_8 yb0_0_8 lb0_8 kc8 kr7_8 kc6_8 kc5_8 kc4_8 kw_8 s9
  clear hb9
  have kc9 : Below w9.heap.size w9 w9 := bl_refl _
  have o9H := Lib.hid o9
  clear o9
  go_wp2_with fail
  refine (toAssembly_any _ _ _ ys _ (hC.below RPl.stable bk_) (by omega)).mono ?_
  rintro e w10 ⟨A10, rfl, o10, hb10⟩
  have s10 : w9.heap.size + 1 ≤ w10.heap.size := by have := hb10.size; (try simp at this); omega
  have s10H := Lib.hid s10
  have kw_10 : Below w.heap.size w w10 := bl_tr bk_ hb10
  have kc4_10 : Below w4.heap.size w4 w10 := bl_tr bk_ hb10
  have kc5_10 : Below w5.heap.size w5 w10 := bl_tr bk_ hb10
  have kc6_10 : Below w6.heap.size w6 w10 := bl_tr bk_ hb10
  have kr7_10 : Below w7.heap.size w7 w10 := bl_tr bk_ hb10
  have kc8_10 : Below w8.heap.size w8 w10 := bl_tr bk_ hb10
  have kc9_10 : Below w9.heap.size w9 w10 := bl_tr bk_ hb10
  have lb0_10 : w.heap.size < w10.heap.size := Nat.lt_of_lt_of_le (by go_simp) hb10.size
  have yb0_0_10 : w10.cell? ⟨w.heap.size, 0, none⟩ = some (.slice G n cg) := (hb10.cell (p := ⟨w.heap.size, 0, none⟩) (by go_simp)).trans (by go_simp)
  have yb0_1_10 : w10.cell? ⟨w.heap.size, 1, none⟩ = some (.slice T m ct) := (hb10.cell (p := ⟨w.heap.size, 1, none⟩) (by go_simp)).trans (by go_simp)
  have lb1_10 : w.heap.size + 1 < w10.heap.size := Nat.lt_of_lt_of_le (by go_simp) hb10.size
  have yb1_0_10 : w10.cell? ⟨w.heap.size + 1, 0, none⟩ = some (.slice A q ca) := (hb10.cell (p := ⟨w.heap.size + 1, 0, none⟩) (by go_simp)).trans (by go_simp)
  have lb2_10 : w.heap.size + 2 < w10.heap.size := Nat.lt_of_lt_of_le (by go_simp) hb10.size
  have yb2_0_10 : w10.cell? ⟨w.heap.size + 2, 0, none⟩ = some (.slice C nb cb) := (hb10.cell (p := ⟨w.heap.size + 2, 0, none⟩) (by go_simp)).trans (by go_simp)
  have lb3_10 : w8.heap.size < w10.heap.size := Nat.lt_of_lt_of_le (by go_simp) hb10.size
  have yb3_0_10 : w10.cell? ⟨w8.heap.size, 0, none⟩ = some (.slice G8 n n) := (hb10.cell (p := ⟨w8.heap.size, 0, none⟩) (by go_simp)).trans (by go_simp)
  have yb3_1_10 : w10.cell? ⟨w8.heap.size, 1, none⟩ = some (.slice T8 m m) := (hb10.cell (p := ⟨w8.heap.size, 1, none⟩) (by go_simp)).trans (by go_simp)
  have lb4_10 : w9.heap.size < w10.heap.size := Nat.lt_of_lt_of_le (by go_simp) hb10.size
  have yb4_0_10 : w10.cell? ⟨w9.heap.size, 0, none⟩ = some (.slice A9 q q) := (hb10.cell (p := ⟨w9.heap.size, 0, none⟩) (by go_simp)).trans (by go_simp)
  clear yb3_1_9 yb3_0_9 lb3_9 yb2_0_9 lb2_9 yb1_0_9 lb1_9 yb0_1_9 yb0_0_9 lb0_9 kc9 kc8_9 kr7_9 kc6_9 kc5_9 kc4_9 kw_9 s10
  clear hb10
  have kc10 : Below w10.heap.size w10 w10 := bl_refl _
  have o10H := Lib.hid o10
  clear o10
  go_wp2_with fail
  refine (Combinations_any _ _ _ _ _ _ _ _ _ _ _ _ gs ts xs ys tt _ ⟨o8H.out.rd.below RGl.stable bk_, p8H.out.rdTi.below RTi.stable bk_, o9H.out.rd.below RPl.stable bk_, by omega, by omega, by omega, hgk.out, htk.out⟩ ⟨o8H.out.rd.below RGl.stable bk_, p8H.out.rdTi.below RTi.stable bk_, o10H.out.rd.below RPl.stable bk_, by omega, by omega, by omega, hgk.out, htk.out⟩).mono ?_
  rintro e w11 ⟨V11, c11, rfl, v11, hb11⟩
  have s11 : w10.heap.size + 1 ≤ w11.heap.size := by have := hb11.size; (try simp at this); omega
  have s11H := Lib.hid s11
  have kw_11 : Below w.heap.size w w11 := bl_tr bk_ hb11
  have kc4_11 : Below w4.heap.size w4 w11 := bl_tr bk_ hb11
  have kc5_11 : Below w5.heap.size w5 w11 := bl_tr bk_ hb11
  have kc6_11 : Below w6.heap.size w6 w11 := bl_tr bk_ hb11
  have kr7_11 : Below w7.heap.size w7 w11 := bl_tr bk_ hb11
  have kc8_11 : Below w8.heap.size w8 w11 := bl_tr bk_ hb11
  have kc9_11 : Below w9.heap.size w9 w11 := bl_tr bk_ hb11
  have kc10_11 : Below w10.heap.size w10 w11 := bl_tr bk_ hb11
  have lb0_11 : w.heap.size < w11.heap.size := Nat.lt_of_lt_of_le (by go_simp) hb11.size
  have yb0_0_11 : w11.cell? ⟨w.heap.size, 0, none⟩ = some (.slice G n cg) := (hb11.cell (p := ⟨w.heap.size, 0, none⟩) (by go_simp)).trans (by go_simp)
  have yb0_1_11 : w11.cell? ⟨w.heap.size, 1, none⟩ = some (.slice T m ct) := (hb11.cell (p := ⟨w.heap.size, 1, none⟩) (by go_simp)).trans (by go_simp)
  have lb1_11 : w.heap.size + 1 < w11.heap.size := Nat.lt_of_lt_of_le (by go_simp) hb11.size
  have yb1_0_11 : w11.cell? ⟨w.heap.size + 1, 0, none⟩ = some (.slice A q ca) := (hb11.cell (p := ⟨w.heap.size + 1, 0, none⟩) (by go_simp)).trans (by go_simp)
  have lb2_11 : w.heap.size + 2 < w11.heap.size := Nat.lt_of_lt_of_le (by go_simp) hb11.size
  have yb2_0_11 : w11.cell? ⟨w.heap.size + 2, 0, none⟩ = some (.slice C nb cb) := (hb11.cell (p := ⟨w.heap.size + 2, 0, none⟩) (by go_simp)).trans (by go_simp)
  have lb3_11 : w8.heap.size < w11.heap.size := Nat.lt_of_lt_of_le (by go_simp) hb11.size
  have yb3_0_11 : w11.cell? ⟨w8.heap.size, 0, none⟩ = some (.slice G8 n n) := (hb11.cell (p := ⟨w8.heap.size, 0, none⟩) (by go_simp)).trans (by go_simp)
  have yb3_1_11 : w11.cell? ⟨w8.heap.size, 1, none⟩ = some (.slice T8 m m) := (hb11.cell (p := ⟨w8.heap.size, 1, none⟩) (by go_simp)).trans (by go_simp)
  have lb4_11 : w9.heap.size < w11.heap.size := Nat.lt_of_lt_of_le (by go_simp) hb11.size
  have yb4_0_11 : w11.cell? ⟨w9.heap.size, 0, none⟩ = some (.slice A9 q q) := (hb11.cell (p := ⟨w9.heap.size, 0, none⟩) (by go_simp)).trans (by go_simp)
  have lb5_11 : w10.heap.size < w11.heap.size := Nat.lt_of_lt_of_le (by go_simp) hb11.size
  have yb5_0_11 : w11.cell? ⟨w10.heap.size, 0, none⟩ = some (.slice A10 nb nb) := (hb11.cell (p := ⟨w10.heap.size, 0, none⟩) (by go_simp)).trans (by go_simp)
  clear yb4_0_10 lb4_10 yb3_1_10 yb3_0_10 lb3_10 yb2_0_10 lb2_10 yb1_0_10 lb1_10 yb0_1_10 yb0_0_10 lb0_10 kc10 kc9_10 kc8_10 kr7_10 kc6_10 kc5_10 kc4_10 kw_10 s11
  clear hb11
  have kr11 : Below w11.heap.size w11 w11 := bl_refl _
  have v11H := Lib.hid v11
  clear v11
  go_wp2_with fail
  refine (eqPointS_same _ _ _ _ _ (combosR gs ts xs ys tt).1 _ ((rdPts v11H.out).below RPt.stable bk_) ((rdPts v7H.out).below RPt.stable bk_) hRl.out).mono ?_
  rintro e w12 ⟨rfl, hb12⟩
  have s12 : w11.heap.size ≤ w12.heap.size := by have := hb12.size; (try simp at this); omega
  have s12H := Lib.hid s12
  have kw_12 : Below w.heap.size w w12 := bl_tr bk_ hb12
  have kc4_12 : Below w4.heap.size w4 w12 := bl_tr bk_ hb12
  have kc5_12 : Below w5.heap.size w5 w12 := bl_tr bk_ hb12
  have kc6_12 : Below w6.heap.size w6 w12 := bl_tr bk_ hb12
  have kr7_12 : Below w7.heap.size w7 w12 := bl_tr bk_ hb12
  have kc8_12 : Below w8.heap.size w8 w12 := bl_tr bk_ hb12
  have kc9_12 : Below w9.heap.size w9 w12 := bl_tr bk_ hb12
  have kc10_12 : Below w10.heap.size w10 w12 := bl_tr bk_ hb12
  have kr11_12 : Below w11.heap.size w11 w12 := bl_tr bk_ hb12
  have lb0_12 : w.heap.size < w12.heap.size := Nat.lt_of_lt_of_le (by go_simp) hb12.size
  have yb0_0_12 : w12.cell? ⟨w.heap.size, 0, none⟩ = some (.slice G n cg) := (hb12.cell (p := ⟨w.heap.size, 0, none⟩) (by go_simp)).trans (by go_simp)
  have yb0_1_12 : w12.cell? ⟨w.heap.size, 1, none⟩ = some (.slice T m ct) := (hb12.cell (p := ⟨w.heap.size, 1, none⟩) (by go_simp)).trans (by go_simp)
  have lb1_12 : w.heap.size + 1 < w12.heap.size := Nat.lt_of_lt_of_le (by go_simp) hb12.size
  have yb1_0_12 : w12.cell? ⟨w.heap.size + 1, 0, none⟩ = some (.slice A q ca) := (hb12.cell (p := ⟨w.heap.size + 1, 0, none⟩) (by go_simp)).trans (by go_simp)
  have lb2_12 : w.heap.size + 2 < w12.heap.size := Nat.lt_of_lt_of_le (by go_simp) hb12.size
  have yb2_0_12 : w12.cell? ⟨w.heap.size + 2, 0, none⟩ = some (.slice C nb cb) := (hb12.cell (p := ⟨w.heap.size + 2, 0, none⟩) (by go_simp)).trans (by go_simp)
  have lb3_12 : w8.heap.size < w12.heap.size := Nat.lt_of_lt_of_le (by go_simp) hb12.size
  have yb3_0_12 : w12.cell? ⟨w8.heap.size, 0, none⟩ = some (.slice G8 n n) := (hb12.cell (p := ⟨w8.heap.size, 0, none⟩) (by go_simp)).trans (by go_simp)
  have yb3_1_12 : w12.cell? ⟨w8.heap.size, 1, none⟩ = some (.slice T8 m m) := (hb12.cell (p := ⟨w8.heap.size, 1, none⟩) (by go_simp)).trans (by go_simp)
  have lb4_12 : w9.heap.size < w12.heap.size := Nat.lt_of_lt_of_le (by go_simp) hb12.size
  have yb4_0_12 : w12.cell? ⟨w9.heap.size, 0, none⟩ = some (.slice A9 q q) := (hb12.cell (p := ⟨w9.heap.size, 0, none⟩) (by go_simp)).trans (by go_simp)
  have lb5_12 : w10.heap.size < w12.heap.size := Nat.lt_of_lt_of_le (by go_simp) hb12.size
  have yb5_0_12 : w12.cell? ⟨w10.heap.size, 0, none⟩ = some (.slice A10 nb nb) := (hb12.cell (p := ⟨w10.heap.size, 0, none⟩) (by go_simp)).trans (by go_simp)
  clear yb5_0_11 lb5_11 yb4_0_11 lb4_11 yb3_1_11 yb3_0_11 lb3_11 yb2_0_11 lb2_11 yb1_0_11 lb1_11 yb0_1_11 yb0_0_11 lb0_11 kr11 kc10_11 kc9_11 kc8_11 kr7_11 kc6_11 kc5_11 kc4_11 kw_11 s12
  clear hb12
  go_wp2_with fail
  refine wp_region_ord [(0, .q), (1, .q), (2, .g), (3, .g), (4, .q)] (by kernel_rfl) (by kernel_rfl) ?_
  simp only [pick, List.filterMap_cons, List.filterMap_nil, List.getElem?_toArray, List.getElem?_cons_zero, List.getElem?_cons_succ, Option.map_some]
  repeat (first | ((with_reducible refine wpD_p (fun K hK => ?_)); go_simp; refine hK _ ?_; clear hK K) | ((with_reducible refine wpD_q (fun K hK => ?_)); go_simp; (first | refine hK _ ?_ | (go_bits; refine hK _ ?_) | (go_bits; go_simp; refine hK _ ?_)); clear hK K))
  with_reducible refine wpD_g (fun K hK => ?_)
  go_simp
  refine (toTileSet_any _ _ _ _ _ _ gs ts _ (hG.below RGl.stable bk_) (hT.below RTi.stable bk_) (by omega) (by omega) htsH.out).mono ?_
  rintro e w13 ⟨G13, T13, rfl, o13, p13, hb13⟩
  refine ⟨_, rfl, hb13, hK _ _ ?_⟩
  clear hK K
  have s13 : w12.heap.size ≤ w13.heap.size := by have := hb13.size; (try simp at this); omega
  have s13H := Lib.hid s13
  have kw_13 : Below w.heap.size w w13 := bl_tr bk_ hb13
  have kc4_13 : Below w4.heap.size w4 w13 := bl_tr bk_ hb13
  have kc5_13 : Below w5.heap.size w5 w13 := bl_tr bk_ hb13
  have kc6_13 : Below w6.heap.size w6 w13 := bl_tr bk_ hb13
  have kr7_13 : Below w7.heap.size w7 w13 := bl_tr bk_ hb13
  have kc8_13 : Below w8.heap.size w8 w13 := bl_tr bk_ hb13
  have kc9_13 : Below w9.heap.size w9 w13 := bl_tr bk_ hb13
  have kc10_13 : Below w10.heap.size w10 w13 := bl_tr bk_ hb13
  have kr11_13 : Below w11.heap.size w11 w13 := bl_tr bk_ hb13
  have lb0_13 : w.heap.size < w13.heap.size := Nat.lt_of_lt_of_le (by go_simp) hb13.size
  have yb0_0_13 : w13.cell? ⟨w.heap.size, 0, none⟩ = some (.slice G n cg) := (hb13.cell (p := ⟨w.heap.size, 0, none⟩) (by go_simp)).trans (by go_simp)
  have yb0_1_13 : w13.cell? ⟨w.heap.size, 1, none⟩ = some (.slice T m ct) := (hb13.cell (p := ⟨w.heap.size, 1, none⟩) (by go_simp)).trans (by go_simp)
  have lb1_13 : w.heap.size + 1 < w13.heap.size := Nat.lt_of_lt_of_le (by go_simp) hb13.size
  have yb1_0_13 : w13.cell? ⟨w.heap.size + 1, 0, none⟩ = some (.slice A q ca) := (hb13.cell (p := ⟨w.heap.size + 1, 0, none⟩) (by go_simp)).trans (by go_simp)
  have lb2_13 : w.heap.size + 2 < w13.heap.size := Nat.lt_of_lt_of_le (by go_simp) hb13.size
  have yb2_0_13 : w13.cell? ⟨w.heap.size + 2, 0, none⟩ = some (.slice C nb cb) := (hb13.cell (p := ⟨w.heap.size + 2, 0, none⟩) (by go_simp)).trans (by go_simp)
  have lb3_13 : w8.heap.size < w13.heap.size := Nat.lt_of_lt_of_le (by go_simp) hb13.size
  have yb3_0_13 : w13.cell? ⟨w8.heap.size, 0, none⟩ = some (.slice G8 n n) := (hb13.cell (p := ⟨w8.heap.size, 0, none⟩) (by go_simp)).trans (by go_simp)
  have yb3_1_13 : w13.cell? ⟨w8.heap.size, 1, none⟩ = some (.slice T8 m m) := (hb13.cell (p := ⟨w8.heap.size, 1, none⟩) (by go_simp)).trans (by go_simp)
  have lb4_13 : w9.heap.size < w13.heap.size := Nat.lt_of_lt_of_le (by go_simp) hb13.size
  have yb4_0_13 : w13.cell? ⟨w9.heap.size, 0, none⟩ = some (.slice A9 q q) := (hb13.cell (p := ⟨w9.heap.size, 0, none⟩) (by go_simp)).trans (by go_simp)
  have lb5_13 : w10.heap.size < w13.heap.size := Nat.lt_of_lt_of_le (by go_simp) hb13.size
  have yb5_0_13 : w13.cell? ⟨w10.heap.size, 0, none⟩ = some (.slice A10 nb nb) := (hb13.cell (p := ⟨w10.heap.size, 0, none⟩) (by go_simp)).trans (by go_simp)
  clear yb5_0_12 lb5_12 yb4_0_12 lb4_12 yb3_1_12 yb3_0_12 lb3_12 yb2_0_12 lb2_12 yb1_0_12 lb1_12 yb0_1_12 yb0_0_12 lb0_12 kr11_12 kc10_12 kc9_12 kc8_12 kr7_12 kc6_12 kc5_12 kc4_12 kw_12 s13
  clear hb13
  have kc13 : Below w13.heap.size w13 w13 := bl_refl _
  have o13H := Lib.hid o13
  clear o13
  have p13H := Lib.hid p13
  clear p13
  with_reducible refine wpD_g (fun K hK => ?_)
  go_simp
  refine (eqTileSet_same _ _ _ _ _ _ _ _ _ _ gs ts _ (o8H.out.rd.below RGl.stable bk_) (o13H.out.rd.below RGl.stable bk_) (p8H.out.rdTi.below RTi.stable bk_) (p13H.out.rdTi.below RTi.stable bk_) (by omega) (by omega) htsH.out).mono ?_
  rintro e w14 ⟨rfl, hb14⟩
  refine ⟨_, rfl, hb14, hK _ _ ?_⟩
  clear hK K
  have s14 : w13.heap.size ≤ w14.heap.size := by have := hb14.size; (try simp at this); omega
  have s14H := Lib.hid s14
  have kw_14 : Below w.heap.size w w14 := bl_tr bk_ hb14
  have kc4_14 : Below w4.heap.size w4 w14 := bl_tr bk_ hb14
  have kc5_14 : Below w5.heap.size w5 w14 := bl_tr bk_ hb14
  have kc6_14 : Below w6.heap.size w6 w14 := bl_tr bk_ hb14
  have kr7_14 : Below w7.heap.size w7 w14 := bl_tr bk_ hb14
  have kc8_14 : Below w8.heap.size w8 w14 := bl_tr bk_ hb14
  have kc9_14 : Below w9.heap.size w9 w14 := bl_tr bk_ hb14
  have kc10_14 : Below w10.heap.size w10 w14 := bl_tr bk_ hb14
  have kr11_14 : Below w11.heap.size w11 w14 := bl_tr bk_ hb14
  have kc13_14 : Below w13.heap.size w13 w14 := bl_tr bk_ hb14
  have lb0_14 : w.heap.size < w14.heap.size := Nat.lt_of_lt_of_le (by go_simp) hb14.size
  have yb0_0_14 : w14.cell? ⟨w.heap.size, 0, none⟩ = some (.slice G n cg) := (hb14.cell (p := ⟨w.heap.size, 0, none⟩) (by go_simp)).trans (by go_simp)
  have yb0_1_14 : w14.cell? ⟨w.heap.size, 1, none⟩ = some (.slice T m ct) := (hb14.cell (p := ⟨w.heap.size, 1, none⟩) (by go_simp)).trans (by go_simp)
  have lb1_14 : w.heap.size + 1 < w14.heap.size := Nat.lt_of_lt_of_le (by go_simp) hb14.size
  have yb1_0_14 : w14.cell? ⟨w.heap.size + 1, 0, none⟩ = some (.slice A q ca) := (hb14.cell (p := ⟨w.heap.size + 1, 0, none⟩) (by go_simp)).trans (by go_simp)
  have lb2_14 : w.heap.size + 2 < w14.heap.size := Nat.lt_of_lt_of_le (by go_simp) hb14.size
  have yb2_0_14 : w14.cell? ⟨w.heap.size + 2, 0, none⟩ = some (.slice C nb cb) := (hb14.cell (p := ⟨w.heap.size + 2, 0, none⟩) (by go_simp)).trans (by go_simp)
  have lb3_14 : w8.heap.size < w14.heap.size := Nat.lt_of_lt_of_le (by go_simp) hb14.size
  have yb3_0_14 : w14.cell? ⟨w8.heap.size, 0, none⟩ = some (.slice G8 n n) := (hb14.cell (p := ⟨w8.heap.size, 0, none⟩) (by go_simp)).trans (by go_simp)
  have yb3_1_14 : w14.cell? ⟨w8.heap.size, 1, none⟩ = some (.slice T8 m m) := (hb14.cell (p := ⟨w8.heap.size, 1, none⟩) (by go_simp)).trans (by go_simp)
  have lb4_14 : w9.heap.size < w14.heap.size := Nat.lt_of_lt_of_le (by go_simp) hb14.size
  have yb4_0_14 : w14.cell? ⟨w9.heap.size, 0, none⟩ = some (.slice A9 q q) := (hb14.cell (p := ⟨w9.heap.size, 0, none⟩) (by go_simp)).trans (by go_simp)
  have lb5_14 : w10.heap.size < w14.heap.size := Nat.lt_of_lt_of_le (by go_simp) hb14.size
  have yb5_0_14 : w14.cell? ⟨w10.heap.size, 0, none⟩ = some (.slice A10 nb nb) := (hb14.cell (p := ⟨w10.heap.size, 0, none⟩) (by go_simp)).trans (by go_simp)
  clear yb5_0_13 lb5_13 yb4_0_13 lb4_13 yb3_1_13 yb3_0_13 lb3_13 yb2_0_13 lb2_13 yb1_0_13 lb1_13 yb0_1_13 yb0_0_13 lb0_13 kc13 kr11_13 kc10_13 kc9_13 kc8_13 kr7_13 kc6_13 kc5_13 kc4_13 kw_13 s14
  clear hb14
  repeat (first | ((with_reducible refine wpD_p (fun K hK => ?_)); go_simp; refine hK _ ?_; clear hK K) | ((with_reducible refine wpD_q (fun K hK => ?_)); go_simp; (first | refine hK _ ?_ | (go_bits; refine hK _ ?_) | (go_bits; go_simp; refine hK _ ?_)); clear hK K))
  with_reducible refine wpD_nil ?_
  go_wp2_with fail
  refine wp_region_ord [(0, .q), (1, .q), (2, .g), (3, .g), (4, .q)] (by kernel_rfl) (by kernel_rfl) ?_
  simp only [pick, List.filterMap_cons, List.filterMap_nil, List.getElem?_toArray, List.getElem?_cons_zero, List.getElem?_cons_succ, Option.map_some]
  repeat (first | ((with_reducible refine wpD_p (fun K hK => ?_)); go_simp; refine hK _ ?_; clear hK K) | ((with_reducible refine wpD_q (fun K hK => ?_)); go_simp; (first | refine hK _ ?_ | (go_bits; refine hK _ ?_) | (go_bits; go_simp; refine hK _ ?_)); clear hK K))
  with_reducible refine wpD_g (fun K hK => ?_)
  go_simp
  refine (toAssembly_any _ _ _ xs _ (hA.below RPl.stable bk_) (by omega)).mono ?_
  rintro e w15 ⟨A15, rfl, o15, hb15⟩
  refine ⟨_, rfl, hb15, hK _ _ ?_⟩
  clear hK K
  have s15 : w14.heap.size ≤ w15.heap.size := by have := hb15.size; (try simp at this); omega
  have s15H := Lib.hid s15
  have kw_15 : Below w.heap.size w w15 := bl_tr bk_ hb15
  have kc4_15 : Below w4.heap.size w4 w15 := bl_tr bk_ hb15
  have kc5_15 : Below w5.heap.size w5 w15 := bl_tr bk_ hb15
  have kc6_15 : Below w6.heap.size w6 w15 := bl_tr bk_ hb15
  have kr7_15 : Below w7.heap.size w7 w15 := bl_tr bk_ hb15
  have kc8_15 : Below w8.heap.size w8 w15 := bl_tr bk_ hb15
  have kc9_15 : Below w9.heap.size w9 w15 := bl_tr bk_ hb15
  have kc10_15 : Below w10.heap.size w10 w15 := bl_tr bk_ hb15
  have kr11_15 : Below w11.heap.size w11 w15 := bl_tr bk_ hb15
  have kc13_15 : Below w13.heap.size w13 w15 := bl_tr bk_ hb15
  have lb0_15 : w.heap.size < w15.heap.size := Nat.lt_of_lt_of_le (by go_simp) hb15.size
  have yb0_0_15 : w15.cell? ⟨w.heap.size, 0, none⟩ = some (.slice G n cg) := (hb15.cell (p := ⟨w.heap.size, 0, none⟩) (by go_simp)).trans (by go_simp)
  have yb0_1_15 : w15.cell? ⟨w.heap.size, 1, none⟩ = some (.slice T m ct) := (hb15.cell (p := ⟨w.heap.size, 1, none⟩) (by go_simp)).trans (by go_simp)
  have lb1_15 : w.heap.size + 1 < w15.heap.size := Nat.lt_of_lt_of_le (by go_simp) hb15.size
  have yb1_0_15 : w15.cell? ⟨w.heap.size + 1, 0, none⟩ = some (.slice A q ca) := (hb15.cell (p := ⟨w.heap.size + 1, 0, none⟩) (by go_simp)).trans (by go_simp)
  have lb2_15 : w.heap.size + 2 < w15.heap.size := Nat.lt_of_lt_of_le (by go_simp) hb15.size
  have yb2_0_15 : w15.cell? ⟨w.heap.size + 2, 0, none⟩ = some (.slice C nb cb) := (hb15.cell (p := ⟨w.heap.size + 2, 0, none⟩) (by go_simp)).trans (by go_simp)
  have lb3_15 : w8.heap.size < w15.heap.size := Nat.lt_of_lt_of_le (by go_simp) hb15.size
  have yb3_0_15 : w15.cell? ⟨w8.heap.size, 0, none⟩ = some (.slice G8 n n) := (hb15.cell (p := ⟨w8.heap.size, 0, none⟩) (by go_simp)).trans (by go_simp)
  have yb3_1_15 : w15.cell? ⟨w8.heap.size, 1, none⟩ = some (.slice T8 m m) := (hb15.cell (p := ⟨w8.heap.size, 1, none⟩) (by go_simp)).trans (by go_simp)
  have lb4_15 : w9.heap.size < w15.heap.size := Nat.lt_of_lt_of_le (by go_simp) hb15.size
  have yb4_0_15 : w15.cell? ⟨w9.heap.size, 0, none⟩ = some (.slice A9 q q) := (hb15.cell (p := ⟨w9.heap.size, 0, none⟩) (by go_simp)).trans (by go_simp)
  have lb5_15 : w10.heap.size < w15.heap.size := Nat.lt_of_lt_of_le (by go_simp) hb15.size
  have yb5_0_15 : w15.cell? ⟨w10.heap.size, 0, none⟩ = some (.slice A10 nb nb) := (hb15.cell (p := ⟨w10.heap.size, 0, none⟩) (by go_simp)).trans (by go_simp)
  clear yb5_0_14 lb5_14 yb4_0_14 lb4_14 yb3_1_14 yb3_0_14 lb3_14 yb2_0_14 lb2_14 yb1_0_14 lb1_14 yb0_1_14 yb0_0_14 lb0_14 kc13_14 kr11_14 kc10_14 kc9_14 kc8_14 kr7_14 kc6_14 kc5_14 kc4_14 kw_14 s15
  clear hb15
  have kc15 : Below w15.heap.size w15 w15 := bl_refl _
  have o15H := Lib.hid o15
  clear o15
  with_reducible refine wpD_g (fun K hK => ?_)
  go_simp
  refine (eqAssembly_same _ _ _ _ _ xs _ (o9H.out.rd.below RPl.stable bk_) (o15H.out.rd.below RPl.stable bk_) (by omega)).mono ?_
  rintro e w16 ⟨rfl, hb16⟩
  refine ⟨_, rfl, hb16, hK _ _ ?_⟩
  clear hK K
  have s16 : w15.heap.size ≤ w16.heap.size := by have := hb16.size; (try simp at this); omega
  have s16H := Lib.hid s16
  have kw_16 : Below w.heap.size w w16 := bl_tr bk_ hb16
  have kc4_16 : Below w4.heap.size w4 w16 := bl_tr bk_ hb16
  have kc5_16 : Below w5.heap.size w5 w16 := bl_tr bk_ hb16
  have kc6_16 : Below w6.heap.size w6 w16 := bl_tr bk_ hb16
  have kr7_16 : Below w7.heap.size w7 w16 := bl_tr bk_ hb16
  have kc8_16 : Below w8.heap.size w8 w16 := bl_tr bk_ hb16
  have kc9_16 : Below w9.heap.size w9 w16 := bl_tr bk_ hb16
  have kc10_16 : Below w10.heap.size w10 w16 := bl_tr bk_ hb16
  have kr11_16 : Below w11.heap.size w11 w16 := bl_tr bk_ hb16
  have kc13_16 : Below w13.heap.size w13 w16 := bl_tr bk_ hb16
  have kc15_16 : Below w15.heap.size w15 w16 := bl_tr bk_ hb16
  have lb0_16 : w.heap.size < w16.heap.size := Nat.lt_of_lt_of_le (by go_simp) hb16.size
  have yb0_0_16 : w16.cell? ⟨w.heap.size, 0, none⟩ = some (.slice G n cg) := (hb16.cell (p := ⟨w.heap.size, 0, none⟩) (by go_simp)).trans (by go_simp)
  have yb0_1_16 : w16.cell? ⟨w.heap.size, 1, none⟩ = some (.slice T m ct) := (hb16.cell (p := ⟨w.heap.size, 1, none⟩) (by go_simp)).trans (by go_simp)
  have lb1_16 : w.heap.size + 1 < w16.heap.size := Nat.lt_of_lt_of_le (by go_simp) hb16.size
  have yb1_0_16 : w16.cell? ⟨w.heap.size + 1, 0, none⟩ = some (.slice A q ca) := (hb16.cell (p := ⟨w.heap.size + 1, 0, none⟩) (by go_simp)).trans (by go_simp)
  have lb2_16 : w.heap.size + 2 < w16.heap.size := Nat.lt_of_lt_of_le (by go_simp) hb16.size
  have yb2_0_16 : w16.cell? ⟨w.heap.size + 2, 0, none⟩ = some (.slice C nb cb) := (hb16.cell (p := ⟨w.heap.size + 2, 0, none⟩) (by go_simp)).trans (by go_simp)
  have lb3_16 : w8.heap.size < w16.heap.size := Nat.lt_of_lt_of_le (by go_simp) hb16.size
  have yb3_0_16 : w16.cell? ⟨w8.heap.size, 0, none⟩ = some (.slice G8 n n) := (hb16.cell (p := ⟨w8.heap.size, 0, none⟩) (by go_simp)).trans (by go_simp)
  have yb3_1_16 : w16.cell? ⟨w8.heap.size, 1, none⟩ = some (.slice T8 m m) := (hb16.cell (p := ⟨w8.heap.size, 1, none⟩) (by go_simp)).trans (by go_simp)
  have lb4_16 : w9.heap.size < w16.heap.size := Nat.lt_of_lt_of_le (by go_simp) hb16.size
  have yb4_0_16 : w16.cell? ⟨w9.heap.size, 0, none⟩ = some (.slice A9 q q) := (hb16.cell (p := ⟨w9.heap.size, 0, none⟩) (by go_simp)).trans (by go_simp)
  have lb5_16 : w10.heap.size < w16.heap.size := Nat.lt_of_lt_of_le (by go_simp) hb16.size
  have yb5_0_16 : w16.cell? ⟨w10.heap.size, 0, none⟩ = some (.slice A10 nb nb) := (hb16.cell (p := ⟨w10.heap.size, 0, none⟩) (by go_simp)).trans (by go_simp)
  clear yb5_0_15 lb5_15 yb4_0_15 lb4_15 yb3_1_15 yb3_0_15 lb3_15 yb2_0_15 lb2_15 yb1_0_15 lb1_15 yb0_1_15 yb0_0_15 lb0_15 kc15 kc13_15 kr11_15 kc10_15 kc9_15 kc8_15 kr7_15 kc6_15 kc5_15 kc4_15 kw_15 s16
  clear hb16
  repeat (first | ((with_reducible refine wpD_p (fun K hK => ?_)); go_simp; refine hK _ ?_; clear hK K) | ((with_reducible refine wpD_q (fun K hK => ?_)); go_simp; (first | refine hK _ ?_ | (go_bits; refine hK _ ?_) | (go_bits; go_simp; refine hK _ ?_)); clear hK K))
  with_reducible refine wpD_nil ?_
  go_wp2_with fail
  refine wp_region_ord [(0, .q), (1, .q), (2, .g), (3, .g), (4, .q)] (by kernel_rfl) (by kernel_rfl) ?_
  simp only [pick, List.filterMap_cons, List.filterMap_nil, List.getElem?_toArray, List.getElem?_cons_zero, List.getElem?_cons_succ, Option.map_some]
  repeat (first | ((with_reducible refine wpD_p (fun K hK => ?_)); go_simp; refine hK _ ?_; clear hK K) | ((with_reducible refine wpD_q (fun K hK => ?_)); go_simp; (first | refine hK _ ?_ | (go_bits; refine hK _ ?_) | (go_bits; go_simp; refine hK _ ?_)); clear hK K))
  with_reducible refine wpD_g (fun K hK => ?_)
  go_simp
  refine (toAssembly_any _ _ _ ys _ (hC.below RPl.stable bk_) (by omega)).mono ?_
  rintro e w17 ⟨A17, rfl, o17, hb17⟩
  refine ⟨_, rfl, hb17, hK _ _ ?_⟩
  clear hK K
  have s17 : w16.heap.size ≤ w17.heap.size := by have := hb17.size; (try simp at this); omega
  have s17H := Lib.hid s17
  have kw_17 : Below w.heap.size w w17 := bl_tr bk_ hb17
  have kc4_17 : Below w4.heap.size w4 w17 := bl_tr bk_ hb17
  have kc5_17 : Below w5.heap.size w5 w17 := bl_tr bk_ hb17
  have kc6_17 : Below w6.heap.size w6 w17 := bl_tr bk_ hb17
  have kr7_17 : Below w7.heap.size w7 w17 := bl_tr bk_ hb17
  have kc8_17 : Below w8.heap.size w8 w17 := bl_tr bk_ hb17
  have kc9_17 : Below w9.heap.size w9 w17 := bl_tr bk_ hb17
  have kc10_17 : Below w10.heap.size w10 w17 := bl_tr bk_ hb17
  have kr11_17 : Below w11.heap.size w11 w17 := bl_tr bk_ hb17
  have kc13_17 : Below w13.heap.size w13 w17 := bl_tr bk_ hb17
  have kc15_17 : Below w15.heap.size w15 w17 := bl_tr bk_ hb17
  have lb0_17 : w.heap.size < w17.heap.size := Nat.lt_of_lt_of_le (by go_simp) hb17.size
  have yb0_0_17 : w17.cell? ⟨w.heap.size, 0, none⟩ = some (.slice G n cg) := (hb17.cell (p := ⟨w.heap.size, 0, none⟩) (by go_simp)).trans (by go_simp)
  have yb0_1_17 : w17.cell? ⟨w.heap.size, 1, none⟩ = some (.slice T m ct) := (hb17.cell (p := ⟨w.heap.size, 1, none⟩) (by go_simp)).trans (by go_simp)
  have lb1_17 : w.heap.size + 1 < w17.heap.size := Nat.lt_of_lt_of_le (by go_simp) hb17.size
  have yb1_0_17 : w17.cell? ⟨w.heap.size + 1, 0, none⟩ = some (.slice A q ca) := (hb17.cell (p := ⟨w.heap.size + 1, 0, none⟩) (by go_simp)).trans (by go_simp)
  have lb2_17 : w.heap.size + 2 < w17.heap.size := Nat.lt_of_lt_of_le (by go_simp) hb17.size
  have yb2_0_17 : w17.cell? ⟨w.heap.size + 2, 0, none⟩ = some (.slice C nb cb) := (hb17.cell (p := ⟨w.heap.size + 2, 0, none⟩) (by go_simp)).trans (by go_simp)
  have lb3_17 : w8.heap.size < w17.heap.size := Nat.lt_of_lt_of_le (by go_simp) hb17.size
  have yb3_0_17 : w17.cell? ⟨w8.heap.size, 0, none⟩ = some (.slice G8 n n) := (hb17.cell (p := ⟨w8.heap.size, 0, none⟩) (by go_simp)).trans (by go_simp)
  have yb3_1_17 : w17.cell? ⟨w8.heap.size, 1, none⟩ = some (.slice T8 m m) := (hb17.cell (p := ⟨w8.heap.size, 1, none⟩) (by go_simp)).trans (by go_simp)
  have lb4_17 : w9.heap.size < w17.heap.size := Nat.lt_of_lt_of_le (by go_simp) hb17.size
  have yb4_0_17 : w17.cell? ⟨w9.heap.size, 0, none⟩ = some (.slice A9 q q) := (hb17.cell (p := ⟨w9.heap.size, 0, none⟩) (by go_simp)).trans (by go_simp)
  have lb5_17 : w10.heap.size < w17.heap.size := Nat.lt_of_lt_of_le (by go_simp) hb17.size
  have yb5_0_17 : w17.cell? ⟨w10.heap.size, 0, none⟩ = some (.slice A10 nb nb) := (hb17.cell (p := ⟨w10.heap.size, 0, none⟩) (by go_simp)).trans (by go_simp)
  clear yb5_0_16 lb5_16 yb4_0_16 lb4_16 yb3_1_16 yb3_0_16 lb3_16 yb2_0_16 lb2_16 yb1_0_16 lb1_16 yb0_1_16 yb0_0_16 lb0_16 kc15_16 kc13_16 kr11_16 kc10_16 kc9_16 kc8_16 kr7_16 kc6_16 kc5_16 kc4_16 kw_16 s17
  clear hb17
  have kc17 : Below w17.heap.size w17 w17 := bl_refl _
  have o17H := Lib.hid o17
  clear o17
  with_reducible refine wpD_g (fun K hK => ?_)
  go_simp
  refine (eqAssembly_same _ _ _ _ _ ys _ (o10H.out.rd.below RPl.stable bk_) (o17H.out.rd.below RPl.stable bk_) (by omega)).mono ?_
  rintro e w18 ⟨rfl, hb18⟩
  refine ⟨_, rfl, hb18, hK _ _ ?_⟩
  clear hK K
  have s18 : w17.heap.size ≤ w18.heap.size := by have := hb18.size; (try simp at this); omega
  have s18H := Lib.hid s18
  have kw_18 : Below w.heap.size w w18 := bl_tr bk_ hb18
  have kc4_18 : Below w4.heap.size w4 w18 := bl_tr bk_ hb18
  have kc5_18 : Below w5.heap.size w5 w18 := bl_tr bk_ hb18
  have kc6_18 : Below w6.heap.size w6 w18 := bl_tr bk_ hb18
  have kr7_18 : Below w7.heap.size w7 w18 := bl_tr bk_ hb18
  have kc8_18 : Below w8.heap.size w8 w18 := bl_tr bk_ hb18
  have kc9_18 : Below w9.heap.size w9 w18 := bl_tr bk_ hb18
  have kc10_18 : Below w10.heap.size w10 w18 := bl_tr bk_ hb18
  have kr11_18 : Below w11.heap.size w11 w18 := bl_tr bk_ hb18
  have kc13_18 : Below w13.heap.size w13 w18 := bl_tr bk_ hb18
  have kc15_18 : Below w15.heap.size w15 w18 := bl_tr bk_ hb18
  have kc17_18 : Below w17.heap.size w17 w18 := bl_tr bk_ hb18
  have lb0_18 : w.heap.size < w18.heap.size := Nat.lt_of_lt_of_le (by go_simp) hb18.size
  have yb0_0_18 : w18.cell? ⟨w.heap.size, 0, none⟩ = some (.slice G n cg) := (hb18.cell (p := ⟨w.heap.size, 0, none⟩) (by go_simp)).trans (by go_simp)
  have yb0_1_18 : w18.cell? ⟨w.heap.size, 1, none⟩ = some (.slice T m ct) := (hb18.cell (p := ⟨w.heap.size, 1, none⟩) (by go_simp)).trans (by go_simp)
  have lb1_18 : w.heap.size + 1 < w18.heap.size := Nat.lt_of_lt_of_le (by go_simp) hb18.size
  have yb1_0_18 : w18.cell? ⟨w.heap.size + 1, 0, none⟩ = some (.slice A q ca) := (hb18.cell (p := ⟨w.heap.size + 1, 0, none⟩) (by go_simp)).trans (by go_simp)
  have lb2_18 : w.heap.size + 2 < w18.heap.size := Nat.lt_of_lt_of_le (by go_simp) hb18.size
  have yb2_0_18 : w18.cell? ⟨w.heap.size + 2, 0, none⟩ = some (.slice C nb cb) := (hb18.cell (p := ⟨w.heap.size + 2, 0, none⟩) (by go_simp)).trans (by go_simp)
  have lb3_18 : w8.heap.size < w18.heap.size := Nat.lt_of_lt_of_le (by go_simp) hb18.size
  have yb3_0_18 : w18.cell? ⟨w8.heap.size, 0, none⟩ = some (.slice G8 n n) := (hb18.cell (p := ⟨w8.heap.size, 0, none⟩) (by go_simp)).trans (by go_simp)
  have yb3_1_18 : w18.cell? ⟨w8.heap.size, 1, none⟩ = some (.slice T8 m m) := (hb18.cell (p := ⟨w8.heap.size, 1, none⟩) (by go_simp)).trans (by go_simp)
  have lb4_18 : w9.heap.size < w18.heap.size := Nat.lt_of_lt_of_le (by go_simp) hb18.size
  have yb4_0_18 : w18.cell? ⟨w9.heap.size, 0, none⟩ = some (.slice A9 q q) := (hb18.cell (p := ⟨w9.heap.size, 0, none⟩) (by go_simp)).trans (by go_simp)
  have lb5_18 : w10.heap.size < w18.heap.size := Nat.lt_of_lt_of_le (by go_simp) hb18.size
  have yb5_0_18 : w18.cell? ⟨w10.heap.size, 0, none⟩ = some (.slice A10 nb nb) := (hb18.cell (p := ⟨w10.heap.size, 0, none⟩) (by go_simp)).trans (by go_simp)
  clear yb5_0_17 lb5_17 yb4_0_17 lb4_17 yb3_1_17 yb3_0_17 lb3_17 yb2_0_17 lb2_17 yb1_0_17 lb1_17 yb0_1_17 yb0_0_17 lb0_17 kc17 kc15_17 kc13_17 kr11_17 kc10_17 kc9_17 kc8_17 kr7_17 kc6_17 kc5_17 kc4_17 kw_17 s18
  clear hb18
  repeat (first | ((with_reducible refine wpD_p (fun K hK => ?_)); go_simp; refine hK _ ?_; clear hK K) | ((with_reducible refine wpD_q (fun K hK => ?_)); go_simp; (first | refine hK _ ?_ | (go_bits; refine hK _ ?_) | (go_bits; go_simp; refine hK _ ?_)); clear hK K))
  with_reducible refine wpD_nil ?_
  go_wp2_with fail
  have MG8 := Lib.hid (((o8H.out.mk_).lo_ (lo' := (w7.heap.size)) om_).below kc8_18 (Nat.le_refl _))
  have MT8 := Lib.hid (((p8H.out.mkTiles htsH.out).lo_ (lo' := (w7.heap.size)) om_).below kc8_18 (Nat.le_refl _))
  have MA9 := Lib.hid (((o9H.out.mk_).lo_ (lo' := (w8.heap.size + 1)) om_).below kc9_18 (Nat.le_refl _))
  have MA10 := Lib.hid (((o10H.out.mk_).lo_ (lo' := (w9.heap.size + 1)) om_).below kc10_18 (Nat.le_refl _))
  have OG11a := Lib.hid (ownsRow_base (base' := (w10.heap.size + 1)) (ownsRow_below v11H.out kr11_18) om_)
  refine (markTileSet_any _ _ n _ m _ 1 (w7.heap.size) w8.heap.size _ (MkRow.below MG8.out bk_ om_) (MkTiles.below MT8.out bk_ om_) om_ om_ (by omega)).mono ?_
  rintro e w19 ⟨r19, rfl, hr191, hr192, hm19⟩
  clear MT8 MG8
  have s19 : w18.heap.size ≤ w19.heap.size := by have := hm19.size; (try simp at this); omega
  have s19H := Lib.hid s19
  have kw_19 : Below w.heap.size w w19 := Below.trans bk_ (hm19.below.mono om_)
  have kc4_19 : Below w4.heap.size w4 w19 := Below.trans bk_ (hm19.below.mono om_)
  have kc5_19 : Below w5.heap.size w5 w19 := Below.trans bk_ (hm19.below.mono om_)
  have kc6_19 : Below w6.heap.size w6 w19 := Below.trans bk_ (hm19.below.mono om_)
  have kr7_19 : Below w7.heap.size w7 w19 := Below.trans bk_ (hm19.below.mono om_)
  have lb0_19 : w.heap.size < w19.heap.size := Nat.lt_of_lt_of_le (by go_simp) hm19.size
  have yb0_0_19 : w19.cell? ⟨w.heap.size, 0, none⟩ = some (.slice G n cg) := (hm19.below.cell (p := ⟨w.heap.size, 0, none⟩) om_).trans (by go_simp)
  have yb0_1_19 : w19.cell? ⟨w.heap.size, 1, none⟩ = some (.slice T m ct) := (hm19.below.cell (p := ⟨w.heap.size, 1, none⟩) om_).trans (by go_simp)
  have lb1_19 : w.heap.size + 1 < w19.heap.size := Nat.lt_of_lt_of_le (by go_simp) hm19.size
  have yb1_0_19 : w19.cell? ⟨w.heap.size + 1, 0, none⟩ = some (.slice A q ca) := (hm19.below.cell (p := ⟨w.heap.size + 1, 0, none⟩) om_).trans (by go_simp)
  have lb2_19 : w.heap.size + 2 < w19.heap.size := Nat.lt_of_lt_of_le (by go_simp) hm19.size
  have yb2_0_19 : w19.cell? ⟨w.heap.size + 2, 0, none⟩ = some (.slice C nb cb) := (hm19.below.cell (p := ⟨w.heap.size + 2, 0, none⟩) om_).trans (by go_simp)
  have lb3_19 : w8.heap.size < w19.heap.size := Nat.lt_of_lt_of_le (by go_simp) hm19.size
  have yb3_0_19 : w19.cell? ⟨w8.heap.size, 0, none⟩ = some (.slice G8 n n) := (World.cell?_of_block (a := ⟨w8.heap.size, 0, none⟩) (hm19.keep (w8.heap.size) om_ (by go_simp))).trans (by go_simp)
  have yb3_1_19 : w19.cell? ⟨w8.heap.size, 1, none⟩ = some (.slice T8 m m) := (World.cell?_of_block (a := ⟨w8.heap.size, 1, none⟩) (hm19.keep (w8.heap.size) om_ (by go_simp))).trans (by go_simp)
  have lb4_19 : w9.heap.size < w19.heap.size := Nat.lt_of_lt_of_le (by go_simp) hm19.size
  have yb4_0_19 : w19.cell? ⟨w9.heap.size, 0, none⟩ = some (.slice A9 q q) := (World.cell?_of_block (a := ⟨w9.heap.size, 0, none⟩) (hm19.keep (w9.heap.size) om_ (by go_simp))).trans (by go_simp)
  have lb5_19 : w10.heap.size < w19.heap.size := Nat.lt_of_lt_of_le (by go_simp) hm19.size
  have yb5_0_19 : w19.cell? ⟨w10.heap.size, 0, none⟩ = some (.slice A10 nb nb) := (World.cell?_of_block (a := ⟨w10.heap.size, 0, none⟩) (hm19.keep (w10.heap.size) om_ (by go_simp))).trans (by go_simp)
  have MA9_19 := Lib.hid (MkRow.mk (MkRow.below (MA9.out) bk_ om_) hm19 om_ om_)
  have MA10_19 := Lib.hid (MkRow.mk (MkRow.below (MA10.out) bk_ om_) hm19 om_ om_)
  have OG11a_19 := Lib.hid (ownsRow_mk (ownsRow_below OG11a.out bk_) hm19 om_)
  clear OG11a MA10 MA9 yb5_0_18 lb5_18 yb4_0_18 lb4_18 yb3_1_18 yb3_0_18 lb3_18 yb2_0_18 lb2_18 yb1_0_18 lb1_18 yb0_1_18 yb0_0_18 lb0_18 kc17_18 kc15_18 kc13_18 kr11_18 kc10_18 kc9_18 kc8_18 kr7_18 kc6_18 kc5_18 kc4_18 kw_18 s19
  clear hm19
  go_wp2_with fail
  refine (markAssembly_any2 _ q _ r19 (w8.heap.size + 1) w9.heap.size _ (MkRow.below MA9_19.out bk_ om_) om_ om_ (by omega)).mono ?_
  rintro e w20 ⟨r20, rfl, hr201, hr202, hm20⟩
  clear MA9_19
  have s20 : w19.heap.size ≤ w20.heap.size := by have := hm20.size; (try simp at this); omega
  have s20H := Lib.hid s20
  have kw_20 : Below w.heap.size w w20 := Below.trans bk_ (hm20.below.mono om_)
  have kc4_20 : Below w4.heap.size w4 w20 := Below.trans bk_ (hm20.below.mono om_)
  have kc5_20 : Below w5.heap.size w5 w20 := Below.trans bk_ (hm20.below.mono om_)
  have kc6_20 : Below w6.heap.size w6 w20 := Below.trans bk_ (hm20.below.mono om_)
  have kr7_20 : Below w7.heap.size w7 w20 := Below.trans bk_ (hm20.below.mono om_)
  have lb0_20 : w.heap.size < w20.heap.size := Nat.lt_of_lt_of_le (by go_simp) hm20.size
  have yb0_0_20 : w20.cell? ⟨w.heap.size, 0, none⟩ = some (.slice G n cg) := (hm20.below.cell (p := ⟨w.heap.size, 0, none⟩) om_).trans (by go_simp)
  have yb0_1_20 : w20.cell? ⟨w.heap.size, 1, none⟩ = some (.slice T m ct) := (hm20.below.cell (p := ⟨w.heap.size, 1, none⟩) om_).trans (by go_simp)
  have lb1_20 : w.heap.size + 1 < w20.heap.size := Nat.lt_of_lt_of_le (by go_simp) hm20.size
  have yb1_0_20 : w20.cell? ⟨w.heap.size + 1, 0, none⟩ = some (.slice A q ca) := (hm20.below.cell (p := ⟨w.heap.size + 1, 0, none⟩) om_).trans (by go_simp)
  have lb2_20 : w.heap.size + 2 < w20.heap.size := Nat.lt_of_lt_of_le (by go_simp) hm20.size
  have yb2_0_20 : w20.cell? ⟨w.heap.size + 2, 0, none⟩ = some (.slice C nb cb) := (hm20.below.cell (p := ⟨w.heap.size + 2, 0, none⟩) om_).trans (by go_simp)
  have lb3_20 : w8.heap.size < w20.heap.size := Nat.lt_of_lt_of_le (by go_simp) hm20.size
  have yb3_0_20 : w20.cell? ⟨w8.heap.size, 0, none⟩ = some (.slice G8 n n) := (hm20.below.cell (p := ⟨w8.heap.size, 0, none⟩) om_).trans (by go_simp)
  have yb3_1_20 : w20.cell? ⟨w8.heap.size, 1, none⟩ = some (.slice T8 m m) := (hm20.below.cell (p := ⟨w8.heap.size, 1, none⟩) om_).trans (by go_simp)
  have lb4_20 : w9.heap.size < w20.heap.size := Nat.lt_of_lt_of_le (by go_simp) hm20.size
  have yb4_0_20 : w20.cell? ⟨w9.heap.size, 0, none⟩ = some (.slice A9 q q) := (World.cell?_of_block (a := ⟨w9.heap.size, 0, none⟩) (hm20.keep (w9.heap.size) om_ (by go_simp))).trans (by go_simp)
  have lb5_20 : w10.heap.size < w20.heap.size := Nat.lt_of_lt_of_le (by go_simp) hm20.size
  have yb5_0_20 : w20.cell? ⟨w10.heap.size, 0, none⟩ = some (.slice A10 nb nb) := (World.cell?_of_block (a := ⟨w10.heap.size, 0, none⟩) (hm20.keep (w10.heap.size) om_ (by go_simp))).trans (by go_simp)
  have MA10_20 := Lib.hid (MkRow.mk (MkRow.below (MA10_19.out) bk_ om_) hm20 om_ om_)
  have OG11a_20 := Lib.hid (ownsRow_mk (ownsRow_below OG11a_19.out bk_) hm20 om_)
  clear OG11a_19 MA10_19 yb5_0_19 lb5_19 yb4_0_19 lb4_19 yb3_1_19 yb3_0_19 lb3_19 yb2_0_19 lb2_19 yb1_0_19 lb1_19 yb0_1_19 yb0_0_19 lb0_19 kr7_19 kc6_19 kc5_19 kc4_19 kw_19 s20
  clear hm20
  go_wp2_with fail
  refine (markAssembly_any2 _ nb _ r20 (w9.heap.size + 1) w10.heap.size _ (MkRow.below MA10_20.out bk_ om_) om_ om_ (by omega)).mono ?_
  rintro e w21 ⟨r21, rfl, hr211, hr212, hm21⟩
  clear MA10_20
  have s21 : w20.heap.size ≤ w21.heap.size := by have := hm21.size; (try simp at this); omega
  have s21H := Lib.hid s21
  have kw_21 : Below w.heap.size w w21 := Below.trans bk_ (hm21.below.mono om_)
  have kc4_21 : Below w4.heap.size w4 w21 := Below.trans bk_ (hm21.below.mono om_)
  have kc5_21 : Below w5.heap.size w5 w21 := Below.trans bk_ (hm21.below.mono om_)
  have kc6_21 : Below w6.heap.size w6 w21 := Below.trans bk_ (hm21.below.mono om_)
  have kr7_21 : Below w7.heap.size w7 w21 := Below.trans bk_ (hm21.below.mono om_)
  have lb0_21 : w.heap.size < w21.heap.size := Nat.lt_of_lt_of_le (by go_simp) hm21.size
  have yb0_0_21 : w21.cell? ⟨w.heap.size, 0, none⟩ = some (.slice G n cg) := (hm21.below.cell (p := ⟨w.heap.size, 0, none⟩) om_).trans (by go_simp)
  have yb0_1_21 : w21.cell? ⟨w.heap.size, 1, none⟩ = some (.slice T m ct) := (hm21.below.cell (p := ⟨w.heap.size, 1, none⟩) om_).trans (by go_simp)
  have lb1_21 : w.heap.size + 1 < w21.heap.size := Nat.lt_of_lt_of_le (by go_simp) hm21.size
  have yb1_0_21 : w21.cell? ⟨w.heap.size + 1, 0, none⟩ = some (.slice A q ca) := (hm21.below.cell (p := ⟨w.heap.size + 1, 0, none⟩) om_).trans (by go_simp)
  have lb2_21 : w.heap.size + 2 < w21.heap.size := Nat.lt_of_lt_of_le (by go_simp) hm21.size
  have yb2_0_21 : w21.cell? ⟨w.heap.size + 2, 0, none⟩ = some (.slice C nb cb) := (hm21.below.cell (p := ⟨w.heap.size + 2, 0, none⟩) om_).trans (by go_simp)
  have lb3_21 : w8.heap.size < w21.heap.size := Nat.lt_of_lt_of_le (by go_simp) hm21.size
  have yb3_0_21 : w21.cell? ⟨w8.heap.size, 0, none⟩ = some (.slice G8 n n) := (hm21.below.cell (p := ⟨w8.heap.size, 0, none⟩) om_).trans (by go_simp)
  have yb3_1_21 : w21.cell? ⟨w8.heap.size, 1, none⟩ = some (.slice T8 m m) := (hm21.below.cell (p := ⟨w8.heap.size, 1, none⟩) om_).trans (by go_simp)
  have lb4_21 : w9.heap.size < w21.heap.size := Nat.lt_of_lt_of_le (by go_simp) hm21.size
  have yb4_0_21 : w21.cell? ⟨w9.heap.size, 0, none⟩ = some (.slice A9 q q) := (hm21.below.cell (p := ⟨w9.heap.size, 0, none⟩) om_).trans (by go_simp)
  have lb5_21 : w10.heap.size < w21.heap.size := Nat.lt_of_lt_of_le (by go_simp) hm21.size
  have yb5_0_21 : w21.cell? ⟨w10.heap.size, 0, none⟩ = some (.slice A10 nb nb) := (World.cell?_of_block (a := ⟨w10.heap.size, 0, none⟩) (hm21.keep (w10.heap.size) om_ (by go_simp))).trans (by go_simp)
  have OG11a_21 := Lib.hid (ownsRow_mk (ownsRow_below OG11a_20.out bk_) hm21 om_)
  clear OG11a_20 yb5_0_20 lb5_20 yb4_0_20 lb4_20 yb3_1_20 yb3_0_20 lb3_20 yb2_0_20 lb2_20 yb1_0_20 lb1_20 yb0_1_20 yb0_0_20 lb0_20 kr7_20 kc6_20 kc5_20 kc4_20 kw_20 s21
  clear hm21
  go_wp2_with fail
  refine (eqPointS_same _ _ _ _ _ (combosR gs ts xs ys tt).1 _ ((rdPts OG11a_21.out).below RPt.stable bk_) ((rdPts v7H.out).below RPt.stable bk_) hRl.out).mono ?_
  rintro e w22 ⟨rfl, hb22⟩
  have s22 : w21.heap.size ≤ w22.heap.size := by have := hb22.size; (try simp at this); omega
  have s22H := Lib.hid s22
  have kw_22 : Below w.heap.size w w22 := bl_tr bk_ hb22
  have kc4_22 : Below w4.heap.size w4 w22 := bl_tr bk_ hb22
  have kc5_22 : Below w5.heap.size w5 w22 := bl_tr bk_ hb22
  have kc6_22 : Below w6.heap.size w6 w22 := bl_tr bk_ hb22
  have kr7_22 : Below w7.heap.size w7 w22 := bl_tr bk_ hb22
  have lb0_22 : w.heap.size < w22.heap.size := Nat.lt_of_lt_of_le (by go_simp) hb22.size
  have yb0_0_22 : w22.cell? ⟨w.heap.size, 0, none⟩ = some (.slice G n cg) := (hb22.cell (p := ⟨w.heap.size, 0, none⟩) (by go_simp)).trans (by go_simp)
  have yb0_1_22 : w22.cell? ⟨w.heap.size, 1, none⟩ = some (.slice T m ct) := (hb22.cell (p := ⟨w.heap.size, 1, none⟩) (by go_simp)).trans (by go_simp)
  have lb1_22 : w.heap.size + 1 < w22.heap.size := Nat.lt_of_lt_of_le (by go_simp) hb22.size
  have yb1_0_22 : w22.cell? ⟨w.heap.size + 1, 0, none⟩ = some (.slice A q ca) := (hb22.cell (p := ⟨w.heap.size + 1, 0, none⟩) (by go_simp)).trans (by go_simp)
  have lb2_22 : w.heap.size + 2 < w22.heap.size := Nat.lt_of_lt_of_le (by go_simp) hb22.size
  have yb2_0_22 : w22.cell? ⟨w.heap.size + 2, 0, none⟩ = some (.slice C nb cb) := (hb22.cell (p := ⟨w.heap.size + 2, 0, none⟩) (by go_simp)).trans (by go_simp)
  have lb3_22 : w8.heap.size < w22.heap.size := Nat.lt_of_lt_of_le (by go_simp) hb22.size
  have yb3_0_22 : w22.cell? ⟨w8.heap.size, 0, none⟩ = some (.slice G8 n n) := (hb22.cell (p := ⟨w8.heap.size, 0, none⟩) (by go_simp)).trans (by go_simp)
  have yb3_1_22 : w22.cell? ⟨w8.heap.size, 1, none⟩ = some (.slice T8 m m) := (hb22.cell (p := ⟨w8.heap.size, 1, none⟩) (by go_simp)).trans (by go_simp)
  have lb4_22 : w9.heap.size < w22.heap.size := Nat.lt_of_lt_of_le (by go_simp) hb22.size
  have yb4_0_22 : w22.cell? ⟨w9.heap.size, 0, none⟩ = some (.slice A9 q q) := (hb22.cell (p := ⟨w9.heap.size, 0, none⟩) (by go_simp)).trans (by go_simp)
  have lb5_22 : w10.heap.size < w22.heap.size := Nat.lt_of_lt_of_le (by go_simp) hb22.size
  have yb5_0_22 : w22.cell? ⟨w10.heap.size, 0, none⟩ = some (.slice A10 nb nb) := (hb22.cell (p := ⟨w10.heap.size, 0, none⟩) (by go_simp)).trans (by go_simp)
  have OG11a_22 := Lib.hid (ownsRow_below (ownsRow_below OG11a_21.out bk_) hb22)
  clear OG11a_21 yb5_0_21 lb5_21 yb4_0_21 lb4_21 yb3_1_21 yb3_0_21 lb3_21 yb2_0_21 lb2_21 yb1_0_21 lb1_21 yb0_1_21 yb0_0_21 lb0_21 kr7_21 kc6_21 kc5_21 kc4_21 kw_21 s22
  clear hb22
  go_wp2_with fail
  refine (markPointS_c _ _ _ 1 (w10.heap.size + 1) _ _ (mkRow_of_owns (ownsRow_below OG11a_22.out bk_)) (Nat.le_refl _) om_ (by have := hRl.out; omega)).mono ?_
  rintro e w23 ⟨rfl, hm23, mc23⟩
  clear OG11a_22
  have s23 : w22.heap.size ≤ w23.heap.size := by have := hm23.size; (try simp at this); omega
  have s23H := Lib.hid s23
  have kw_23 : Below w.heap.size w w23 := Below.trans bk_ (hm23.below.mono om_)
  have kc4_23 : Below w4.heap.size w4 w23 := Below.trans bk_ (hm23.below.mono om_)
  have kc5_23 : Below w5.heap.size w5 w23 := Below.trans bk_ (hm23.below.mono om_)
  have kc6_23 : Below w6.heap.size w6 w23 := Below.trans bk_ (hm23.below.mono om_)
  have kr7_23 : Below w7.heap.size w7 w23 := Below.trans bk_ (hm23.below.mono om_)
  have lb0_23 : w.heap.size < w23.heap.size := Nat.lt_of_lt_of_le (by go_simp) hm23.size
  have yb0_0_23 : w23.cell? ⟨w.heap.size, 0, none⟩ = some (.slice G n cg) := (hm23.below.cell (p := ⟨w.heap.size, 0, none⟩) om_).trans (by go_simp)
  have yb0_1_23 : w23.cell? ⟨w.heap.size, 1, none⟩ = some (.slice T m ct) := (hm23.below.cell (p := ⟨w.heap.size, 1, none⟩) om_).trans (by go_simp)
  have lb1_23 : w.heap.size + 1 < w23.heap.size := Nat.lt_of_lt_of_le (by go_simp) hm23.size
  have yb1_0_23 : w23.cell? ⟨w.heap.size + 1, 0, none⟩ = some (.slice A q ca) := (hm23.below.cell (p := ⟨w.heap.size + 1, 0, none⟩) om_).trans (by go_simp)
  have lb2_23 : w.heap.size + 2 < w23.heap.size := Nat.lt_of_lt_of_le (by go_simp) hm23.size
  have yb2_0_23 : w23.cell? ⟨w.heap.size + 2, 0, none⟩ = some (.slice C nb cb) := (hm23.below.cell (p := ⟨w.heap.size + 2, 0, none⟩) om_).trans (by go_simp)
  have lb3_23 : w8.heap.size < w23.heap.size := Nat.lt_of_lt_of_le (by go_simp) hm23.size
  have yb3_0_23 : w23.cell? ⟨w8.heap.size, 0, none⟩ = some (.slice G8 n n) := (hm23.below.cell (p := ⟨w8.heap.size, 0, none⟩) om_).trans (by go_simp)
  have yb3_1_23 : w23.cell? ⟨w8.heap.size, 1, none⟩ = some (.slice T8 m m) := (hm23.below.cell (p := ⟨w8.heap.size, 1, none⟩) om_).trans (by go_simp)
  have lb4_23 : w9.heap.size < w23.heap.size := Nat.lt_of_lt_of_le (by go_simp) hm23.size
  have yb4_0_23 : w23.cell? ⟨w9.heap.size, 0, none⟩ = some (.slice A9 q q) := (hm23.below.cell (p := ⟨w9.heap.size, 0, none⟩) om_).trans (by go_simp)
  have lb5_23 : w10.heap.size < w23.heap.size := Nat.lt_of_lt_of_le (by go_simp) hm23.size
  have yb5_0_23 : w23.cell? ⟨w10.heap.size, 0, none⟩ = some (.slice A10 nb nb) := (hm23.below.cell (p := ⟨w10.heap.size, 0, none⟩) om_).trans (by go_simp)
  clear yb5_0_22 lb5_22 yb4_0_22 lb4_22 yb3_1_22 yb3_0_22 lb3_22 yb2_0_22 lb2_22 yb1_0_22 lb1_22 yb0_1_22 yb0_0_22 lb0_22 kr7_22 kc6_22 kc5_22 kc4_22 kw_22 s23
  have Mc23 := Lib.hid mc23
  clear mc23 hm23
  go_wp2_with fail
  refine (heldPointS_any _ _ _ 1 _ _ _ (Marked.below Mc23.out bk_ om_) (by have := hRl.out; omega)).mono ?_
  rintro e _ ⟨rfl, rfl⟩
  go_wp2_with fail
  refine wp_region_ord [(0, .q), (2, .q), (3, .q), (5, .q), (1, .g), (4, .g), (6, .g), (7, .g), (8, .q), (9, .q), (10, .q), (11, .q), (12, .q)] (by kernel_rfl) (by kernel_rfl) ?_
  simp only [pick, List.filterMap_cons, List.filterMap_nil, List.getElem?_toArray, List.getElem?_cons_zero, List.getElem?_cons_succ, Option.map_some]
  repeat (first | ((with_reducible refine wpD_p (fun K hK => ?_)); go_simp; refine hK _ ?_; clear hK K) | ((with_reducible refine wpD_q (fun K hK => ?_)); go_simp; (first | refine hK _ ?_ | (go_bits; refine hK _ ?_) | (go_bits; go_simp; refine hK _ ?_)); clear hK K))
  with_reducible refine wpD_g (fun K hK => ?_)
  go_simp
  refine (toTileSet_any _ _ _ _ _ _ gs ts _ (hG.below RGl.stable bk_) (hT.below RTi.stable bk_) (by omega) (by omega) htsH.out).mono ?_
  rintro e w25 ⟨G25, T25, rfl, o25, p25, hb25⟩
  refine ⟨_, rfl, hb25, hK _ _ ?_⟩
  clear hK K
  have s24 : w23.heap.size ≤ w25.heap.size := by have := hb25.size; (try simp at this); omega
  have s24H := Lib.hid s24
  have kw_24 : Below w.heap.size w w25 := bl_tr bk_ hb25
  have kc4_24 : Below w4.heap.size w4 w25 := bl_tr bk_ hb25
  have kc5_24 : Below w5.heap.size w5 w25 := bl_tr bk_ hb25
  have kc6_24 : Below w6.heap.size w6 w25 := bl_tr bk_ hb25
  have kr7_24 : Below w7.heap.size w7 w25 := bl_tr bk_ hb25
  have lb0_24 : w.heap.size < w25.heap.size := Nat.lt_of_lt_of_le (by go_simp) hb25.size
  have yb0_0_24 : w25.cell? ⟨w.heap.size, 0, none⟩ = some (.slice G n cg) := (hb25.cell (p := ⟨w.heap.size, 0, none⟩) (by go_simp)).trans (by go_simp)
  have yb0_1_24 : w25.cell? ⟨w.heap.size, 1, none⟩ = some (.slice T m ct) := (hb25.cell (p := ⟨w.heap.size, 1, none⟩) (by go_simp)).trans (by go_simp)
  have lb1_24 : w.heap.size + 1 < w25.heap.size := Nat.lt_of_lt_of_le (by go_simp) hb25.size
  have yb1_0_24 : w25.cell? ⟨w.heap.size + 1, 0, none⟩ = some (.slice A q ca) := (hb25.cell (p := ⟨w.heap.size + 1, 0, none⟩) (by go_simp)).trans (by go_simp)
  have lb2_24 : w.heap.size + 2 < w25.heap.size := Nat.lt_of_lt_of_le (by go_simp) hb25.size
  have yb2_0_24 : w25.cell? ⟨w.heap.size + 2, 0, none⟩ = some (.slice C nb cb) := (hb25.cell (p := ⟨w.heap.size + 2, 0, none⟩) (by go_simp)).trans (by go_simp)
  have lb3_24 : w8.heap.size < w25.heap.size := Nat.lt_of_lt_of_le (by go_simp) hb25.size
  have yb3_0_24 : w25.cell? ⟨w8.heap.size, 0, none⟩ = some (.slice G8 n n) := (hb25.cell (p := ⟨w8.heap.size, 0, none⟩) (by go_simp)).trans (by go_simp)
  have yb3_1_24 : w25.cell? ⟨w8.heap.size, 1, none⟩ = some (.slice T8 m m) := (hb25.cell (p := ⟨w8.heap.size, 1, none⟩) (by go_simp)).trans (by go_simp)
  have lb4_24 : w9.heap.size < w25.heap.size := Nat.lt_of_lt_of_le (by go_simp) hb25.size
  have yb4_0_24 : w25.cell? ⟨w9.heap.size, 0, none⟩ = some (.slice A9 q q) := (hb25.cell (p := ⟨w9.heap.size, 0, none⟩) (by go_simp)).trans (by go_simp)
  have lb5_24 : w10.heap.size < w25.heap.size := Nat.lt_of_lt_of_le (by go_simp) hb25.size
  have yb5_0_24 : w25.cell? ⟨w10.heap.size, 0, none⟩ = some (.slice A10 nb nb) := (hb25.cell (p := ⟨w10.heap.size, 0, none⟩) (by go_simp)).trans (by go_simp)
  have Mc23_24 := Lib.hid (Marked.below (Marked.below Mc23.out bk_ om_) hb25 om_)
  clear Mc23 yb5_0_23 lb5_23 yb4_0_23 lb4_23 yb3_1_23 yb3_0_23 lb3_23 yb2_0_23 lb2_23 yb1_0_23 lb1_23 yb0_1_23 yb0_0_23 lb0_23 kr7_23 kc6_23 kc5_23 kc4_23 kw_23 s24
  clear hb25
  have kc25 : Below w25.heap.size w25 w25 := bl_refl _
  have o25H := Lib.hid o25
  clear o25
  have p25H := Lib.hid p25
  clear p25
  with_reducible refine wpD_g (fun K hK => ?_)
  go_simp
  refine (toAssembly_any _ _ _ xs _ (hA.below RPl.stable bk_) (by omega)).mono ?_
  rintro e w26 ⟨A26, rfl, o26, hb26⟩
  refine ⟨_, rfl, hb26, hK _ _ ?_⟩
  clear hK K
  have s25 : w25.heap.size ≤ w26.heap.size := by have := hb26.size; (try simp at this); omega
  have s25H := Lib.hid s25
  have kw_25 : Below w.heap.size w w26 := bl_tr bk_ hb26
  have kc4_25 : Below w4.heap.size w4 w26 := bl_tr bk_ hb26
  have kc5_25 : Below w5.heap.size w5 w26 := bl_tr bk_ hb26
  have kc6_25 : Below w6.heap.size w6 w26 := bl_tr bk_ hb26
  have kr7_25 : Below w7.heap.size w7 w26 := bl_tr bk_ hb26
  have kc25_25 : Below w25.heap.size w25 w26 := bl_tr bk_ hb26
  have lb0_25 : w.heap.size < w26.heap.size := Nat.lt_of_lt_of_le (by go_simp) hb26.size
  have yb0_0_25 : w26.cell? ⟨w.heap.size, 0, none⟩ = some (.slice G n cg) := (hb26.cell (p := ⟨w.heap.size, 0, none⟩) (by go_simp)).trans (by go_simp)
  have yb0_1_25 : w26.cell? ⟨w.heap.size, 1, none⟩ = some (.slice T m ct) := (hb26.cell (p := ⟨w.heap.size, 1, none⟩) (by go_simp)).trans (by go_simp)
  have lb1_25 : w.heap.size + 1 < w26.heap.size := Nat.lt_of_lt_of_le (by go_simp) hb26.size
  have yb1_0_25 : w26.cell? ⟨w.heap.size + 1, 0, none⟩ = some (.slice A q ca) := (hb26.cell (p := ⟨w.heap.size + 1, 0, none⟩) (by go_simp)).trans (by go_simp)
  have lb2_25 : w.heap.size + 2 < w26.heap.size := Nat.lt_of_lt_of_le (by go_simp) hb26.size
  have yb2_0_25 : w26.cell? ⟨w.heap.size + 2, 0, none⟩ = some (.slice C nb cb) := (hb26.cell (p := ⟨w.heap.size + 2, 0, none⟩) (by go_simp)).trans (by go_simp)
  have lb3_25 : w8.heap.size < w26.heap.size := Nat.lt_of_lt_of_le (by go_simp) hb26.size
  have yb3_0_25 : w26.cell? ⟨w8.heap.size, 0, none⟩ = some (.slice G8 n n) := (hb26.cell (p := ⟨w8.heap.size, 0, none⟩) (by go_simp)).trans (by go_simp)
  have yb3_1_25 : w26.cell? ⟨w8.heap.size, 1, none⟩ = some (.slice T8 m m) := (hb26.cell (p := ⟨w8.heap.size, 1, none⟩) (by go_simp)).trans (by go_simp)
  have lb4_25 : w9.heap.size < w26.heap.size := Nat.lt_of_lt_of_le (by go_simp) hb26.size
  have yb4_0_25 : w26.cell? ⟨w9.heap.size, 0, none⟩ = some (.slice A9 q q) := (hb26.cell (p := ⟨w9.heap.size, 0, none⟩) (by go_simp)).trans (by go_simp)
  have lb5_25 : w10.heap.size < w26.heap.size := Nat.lt_of_lt_of_le (by go_simp) hb26.size
  have yb5_0_25 : w26.cell? ⟨w10.heap.size, 0, none⟩ = some (.slice A10 nb nb) := (hb26.cell (p := ⟨w10.heap.size, 0, none⟩) (by go_simp)).trans (by go_simp)
  have Mc23_25 := Lib.hid (Marked.below (Marked.below Mc23_24.out bk_ om_) hb26 om_)
  clear Mc23_24 yb5_0_24 lb5_24 yb4_0_24 lb4_24 yb3_1_24 yb3_0_24 lb3_24 yb2_0_24 lb2_24 yb1_0_24 lb1_24 yb0_1_24 yb0_0_24 lb0_24 kc25 kr7_24 kc6_24 kc5_24 kc4_24 kw_24 s25
  clear hb26
  have kc26 : Below w26.heap.size w26 w26 := bl_refl _
  have o26H := Lib.hid o26
  clear o26
  with_reducible refine wpD_g (fun K hK => ?_)
  go_simp
  refine (toAssembly_any _ _ _ ys _ (hC.below RPl.stable bk_) (by omega)).mono ?_
  rintro e w27 ⟨A27, rfl, o27, hb27⟩
  refine ⟨_, rfl, hb27, hK _ _ ?_⟩
  clear hK K
  have s26 : w26.heap.size ≤ w27.heap.size := by have := hb27.size; (try simp at this); omega
  have s26H := Lib.hid s26
  have kw_26 : Below w.heap.size w w27 := bl_tr bk_ hb27
  have kc4_26 : Below w4.heap.size w4 w27 := bl_tr bk_ hb27
  have kc5_26 : Below w5.heap.size w5 w27 := bl_tr bk_ hb27
  have kc6_26 : Below w6.heap.size w6 w27 := bl_tr bk_ hb27
  have kr7_26 : Below w7.heap.size w7 w27 := bl_tr bk_ hb27
  have kc25_26 : Below w25.heap.size w25 w27 := bl_tr bk_ hb27
  have kc26_26 : Below w26.heap.size w26 w27 := bl_tr bk_ hb27
  have lb0_26 : w.heap.size < w27.heap.size := Nat.lt_of_lt_of_le (by go_simp) hb27.size
  have yb0_0_26 : w27.cell? ⟨w.heap.size, 0, none⟩ = some (.slice G n cg) := (hb27.cell (p := ⟨w.heap.size, 0, none⟩) (by go_simp)).trans (by go_simp)
  have yb0_1_26 : w27.cell? ⟨w.heap.size, 1, none⟩ = some (.slice T m ct) := (hb27.cell (p := ⟨w.heap.size, 1, none⟩) (by go_simp)).trans (by go_simp)
  have lb1_26 : w.heap.size + 1 < w27.heap.size := Nat.lt_of_lt_of_le (by go_simp) hb27.size
  have yb1_0_26 : w27.cell? ⟨w.heap.size + 1, 0, none⟩ = some (.slice A q ca) := (hb27.cell (p := ⟨w.heap.size + 1, 0, none⟩) (by go_simp)).trans (by go_simp)
  have lb2_26 : w.heap.size + 2 < w27.heap.size := Nat.lt_of_lt_of_le (by go_simp) hb27.size
  have yb2_0_26 : w27.cell? ⟨w.heap.size + 2, 0, none⟩ = some (.slice C nb cb) := (hb27.cell (p := ⟨w.heap.size + 2, 0, none⟩) (by go_simp)).trans (by go_simp)
  have lb3_26 : w8.heap.size < w27.heap.size := Nat.lt_of_lt_of_le (by go_simp) hb27.size
  have yb3_0_26 : w27.cell? ⟨w8.heap.size, 0, none⟩ = some (.slice G8 n n) := (hb27.cell (p := ⟨w8.heap.size, 0, none⟩) (by go_simp)).trans (by go_simp)
  have yb3_1_26 : w27.cell? ⟨w8.heap.size, 1, none⟩ = some (.slice T8 m m) := (hb27.cell (p := ⟨w8.heap.size, 1, none⟩) (by go_simp)).trans (by go_simp)
  have lb4_26 : w9.heap.size < w27.heap.size := Nat.lt_of_lt_of_le (by go_simp) hb27.size
  have yb4_0_26 : w27.cell? ⟨w9.heap.size, 0, none⟩ = some (.slice A9 q q) := (hb27.cell (p := ⟨w9.heap.size, 0, none⟩) (by go_simp)).trans (by go_simp)
  have lb5_26 : w10.heap.size < w27.heap.size := Nat.lt_of_lt_of_le (by go_simp) hb27.size
  have yb5_0_26 : w27.cell? ⟨w10.heap.size, 0, none⟩ = some (.slice A10 nb nb) := (hb27.cell (p := ⟨w10.heap.size, 0, none⟩) (by go_simp)).trans (by go_simp)
  have Mc23_26 := Lib.hid (Marked.below (Marked.below Mc23_25.out bk_ om_) hb27 om_)
  clear Mc23_25 yb5_0_25 lb5_25 yb4_0_25 lb4_25 yb3_1_25 yb3_0_25 lb3_25 yb2_0_25 lb2_25 yb1_0_25 lb1_25 yb0_1_25 yb0_0_25 lb0_25 kc26 kc25_25 kr7_25 kc6_25 kc5_25 kc4_25 kw_25 s26
  clear hb27
  have kc27 : Below w27.heap.size w27 w27 := bl_refl _
  have o27H := Lib.hid o27
  clear o27
  with_reducible refine wpD_g (fun K hK => ?_)
  go_simp
  refine (Combinations_any _ _ _ _ _ _ _ _ _ _ _ _ gs ts xs ys tt _ ⟨o25H.out.rd.below RGl.stable bk_, p25H.out.rdTi.below RTi.stable bk_, o26H.out.rd.below RPl.stable bk_, by omega, by omega, by omega, hgk.out, htk.out⟩ ⟨o25H.out.rd.below RGl.stable bk_, p25H.out.rdTi.below RTi.stable bk_, o27H.out.rd.below RPl.stable bk_, by omega, by omega, by omega, hgk.out, htk.out⟩).mono ?_
  rintro e w28 ⟨V28, c28, rfl, v28, hb28⟩
  refine ⟨_, rfl, hb28, hK _ _ ?_⟩
  clear hK K
  have s27 : w27.heap.size ≤ w28.heap.size := by have := hb28.size; (try simp at this); omega
  have s27H := Lib.hid s27
  have kw_27 : Below w.heap.size w w28 := bl_tr bk_ hb28
  have kc4_27 : Below w4.heap.size w4 w28 := bl_tr bk_ hb28
  have kc5_27 : Below w5.heap.size w5 w28 := bl_tr bk_ hb28
  have kc6_27 : Below w6.heap.size w6 w28 := bl_tr bk_ hb28
  have kr7_27 : Below w7.heap.size w7 w28 := bl_tr bk_ hb28
  have kc25_27 : Below w25.heap.size w25 w28 := bl_tr bk_ hb28
  have kc26_27 : Below w26.heap.size w26 w28 := bl_tr bk_ hb28
  have kc27_27 : Below w27.heap.size w27 w28 := bl_tr bk_ hb28
  have lb0_27 : w.heap.size < w28.heap.size := Nat.lt_of_lt_of_le (by go_simp) hb28.size
  have yb0_0_27 : w28.cell? ⟨w.heap.size, 0, none⟩ = some (.slice G n cg) := (hb28.cell (p := ⟨w.heap.size, 0, none⟩) (by go_simp)).trans (by go_simp)
  have yb0_1_27 : w28.cell? ⟨w.heap.size, 1, none⟩ = some (.slice T m ct) := (hb28.cell (p := ⟨w.heap.size, 1, none⟩) (by go_simp)).trans (by go_simp)
  have lb1_27 : w.heap.size + 1 < w28.heap.size := Nat.lt_of_lt_of_le (by go_simp) hb28.size
  have yb1_0_27 : w28.cell? ⟨w.heap.size + 1, 0, none⟩ = some (.slice A q ca) := (hb28.cell (p := ⟨w.heap.size + 1, 0, none⟩) (by go_simp)).trans (by go_simp)
  have lb2_27 : w.heap.size + 2 < w28.heap.size := Nat.lt_of_lt_of_le (by go_simp) hb28.size
  have yb2_0_27 : w28.cell? ⟨w.heap.size + 2, 0, none⟩ = some (.slice C nb cb) := (hb28.cell (p := ⟨w.heap.size + 2, 0, none⟩) (by go_simp)).trans (by go_simp)
  have lb3_27 : w8.heap.size < w28.heap.size := Nat.lt_of_lt_of_le (by go_simp) hb28.size
  have yb3_0_27 : w28.cell? ⟨w8.heap.size, 0, none⟩ = some (.slice G8 n n) := (hb28.cell (p := ⟨w8.heap.size, 0, none⟩) (by go_simp)).trans (by go_simp)
  have yb3_1_27 : w28.cell? ⟨w8.heap.size, 1, none⟩ = some (.slice T8 m m) := (hb28.cell (p := ⟨w8.heap.size, 1, none⟩) (by go_simp)).trans (by go_simp)
  have lb4_27 : w9.heap.size < w28.heap.size := Nat.lt_of_lt_of_le (by go_simp) hb28.size
  have yb4_0_27 : w28.cell? ⟨w9.heap.size, 0, none⟩ = some (.slice A9 q q) := (hb28.cell (p := ⟨w9.heap.size, 0, none⟩) (by go_simp)).trans (by go_simp)
  have lb5_27 : w10.heap.size < w28.heap.size := Nat.lt_of_lt_of_le (by go_simp) hb28.size
  have yb5_0_27 : w28.cell? ⟨w10.heap.size, 0, none⟩ = some (.slice A10 nb nb) := (hb28.cell (p := ⟨w10.heap.size, 0, none⟩) (by go_simp)).trans (by go_simp)
  have Mc23_27 := Lib.hid (Marked.below (Marked.below Mc23_26.out bk_ om_) hb28 om_)
  clear Mc23_26 yb5_0_26 lb5_26 yb4_0_26 lb4_26 yb3_1_26 yb3_0_26 lb3_26 yb2_0_26 lb2_26 yb1_0_26 lb1_26 yb0_1_26 yb0_0_26 lb0_26 kc27 kc26_26 kc25_26 kr7_26 kc6_26 kc5_26 kc4_26 kw_26 s27
  clear hb28
  have kr28 : Below w28.heap.size w28 w28 := bl_refl _
  have v28H := Lib.hid v28
  clear v28
  repeat (first | ((with_reducible refine wpD_p (fun K hK => ?_)); go_simp; refine hK _ ?_; clear hK K) | ((with_reducible refine wpD_q (fun K hK => ?_)); go_simp; (first | refine hK _ ?_ | (go_bits; refine hK _ ?_) | (go_bits; go_simp; refine hK _ ?_)); clear hK K))
  with_reducible refine wpD_nil ?_
  go_wp2_with fail
  refine (eqPointS_same _ _ _ _ _ (combosR gs ts xs ys tt).1 _ ((rdPts v28H.out).below RPt.stable bk_) ((rdPts v7H.out).below RPt.stable bk_) hRl.out).mono ?_
  rintro e w29 ⟨rfl, hb29⟩
  have s28 : w28.heap.size ≤ w29.heap.size := by have := hb29.size; (try simp at this); omega
  have s28H := Lib.hid s28
  have kw_28 : Below w.heap.size w w29 := bl_tr bk_ hb29
  have kc4_28 : Below w4.heap.size w4 w29 := bl_tr bk_ hb29
  have kc5_28 : Below w5.heap.size w5 w29 := bl_tr bk_ hb29
  have kc6_28 : Below w6.heap.size w6 w29 := bl_tr bk_ hb29
  have kr7_28 : Below w7.heap.size w7 w29 := bl_tr bk_ hb29
  have kc25_28 : Below w25.heap.size w25 w29 := bl_tr bk_ hb29
  have kc26_28 : Below w26.heap.size w26 w29 := bl_tr bk_ hb29
  have kc27_28 : Below w27.heap.size w27 w29 := bl_tr bk_ hb29
  have kr28_28 : Below w28.heap.size w28 w29 := bl_tr bk_ hb29
  have lb0_28 : w.heap.size < w29.heap.size := Nat.lt_of_lt_of_le (by go_simp) hb29.size
  have yb0_0_28 : w29.cell? ⟨w.heap.size, 0, none⟩ = some (.slice G n cg) := (hb29.cell (p := ⟨w.heap.size, 0, none⟩) (by go_simp)).trans (by go_simp)
  have yb0_1_28 : w29.cell? ⟨w.heap.size, 1, none⟩ = some (.slice T m ct) := (hb29.cell (p := ⟨w.heap.size, 1, none⟩) (by go_simp)).trans (by go_simp)
  have lb1_28 : w.heap.size + 1 < w29.heap.size := Nat.lt_of_lt_of_le (by go_simp) hb29.size
  have yb1_0_28 : w29.cell? ⟨w.heap.size + 1, 0, none⟩ = some (.slice A q ca) := (hb29.cell (p := ⟨w.heap.size + 1, 0, none⟩) (by go_simp)).trans (by go_simp)
  have lb2_28 : w.heap.size + 2 < w29.heap.size := Nat.lt_of_lt_of_le (by go_simp) hb29.size
  have yb2_0_28 : w29.cell? ⟨w.heap.size + 2, 0, none⟩ = some (.slice C nb cb) := (hb29.cell (p := ⟨w.heap.size + 2, 0, none⟩) (by go_simp)).trans (by go_simp)
  have lb3_28 : w8.heap.size < w29.heap.size := Nat.lt_of_lt_of_le (by go_simp) hb29.size
  have yb3_0_28 : w29.cell? ⟨w8.heap.size, 0, none⟩ = some (.slice G8 n n) := (hb29.cell (p := ⟨w8.heap.size, 0, none⟩) (by go_simp)).trans (by go_simp)
  have yb3_1_28 : w29.cell? ⟨w8.heap.size, 1, none⟩ = some (.slice T8 m m) := (hb29.cell (p := ⟨w8.heap.size, 1, none⟩) (by go_simp)).trans (by go_simp)
  have lb4_28 : w9.heap.size < w29.heap.size := Nat.lt_of_lt_of_le (by go_simp) hb29.size
  have yb4_0_28 : w29.cell? ⟨w9.heap.size, 0, none⟩ = some (.slice A9 q q) := (hb29.cell (p := ⟨w9.heap.size, 0, none⟩) (by go_simp)).trans (by go_simp)
  have lb5_28 : w10.heap.size < w29.heap.size := Nat.lt_of_lt_of_le (by go_simp) hb29.size
  have yb5_0_28 : w29.cell? ⟨w10.heap.size, 0, none⟩ = some (.slice A10 nb nb) := (hb29.cell (p := ⟨w10.heap.size, 0, none⟩) (by go_simp)).trans (by go_simp)
  have Mc23_28 := Lib.hid (Marked.below (Marked.below Mc23_27.out bk_ om_) hb29 om_)
  clear Mc23_27 yb5_0_27 lb5_27 yb4_0_27 lb4_27 yb3_1_27 yb3_0_27 lb3_27 yb2_0_27 lb2_27 yb1_0_27 lb1_27 yb0_1_27 yb0_0_27 lb0_27 kr28 kc27_27 kc26_27 kc25_27 kr7_27 kc6_27 kc5_27 kc4_27 kw_27 s28
  clear hb29
  go_wp2_with fail
  refine (heldPointS_any _ _ _ 1 _ _ _ (Marked.below Mc23_28.out bk_ om_) (by have := hRl.out; omega)).mono ?_
  rintro e _ ⟨rfl, rfl⟩
  go_wp2_with fail
  go_ret
  exact ⟨rfl, bk_⟩
end Go.Proofs.YtedihnokcpnikaaGreat
