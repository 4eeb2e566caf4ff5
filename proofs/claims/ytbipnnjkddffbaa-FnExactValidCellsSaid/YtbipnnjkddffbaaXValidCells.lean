/- Walk: the law FnExactValidCells. -/
import Derived.Test.YtbipnnjkddffbaaSg18
import Derived.Test.YtbipnnjkddffbaaSg3
import Derived.Test.YtbipnnjkddffbaaSg4
import Derived.Test.YtbipnnjkddffbaaHEq
import Derived.Test.YtbipnnjkddffbaaHSz
namespace Go.Proofs.Ytbipnnjkddffbaa
open Go.RowKit
set_option linter.unusedSimpArgs false
set_option linter.unusedVariables false
attribute [local go_sem] BelowBy.cell BelowBy.cell_drew stillUpon givesUpon BelowBy.cell_drewS2 BelowBy.cell_drewS3

set_option maxRecDepth 100000 in
set_option maxHeartbeats 4000000 in
theorem FnExactValidCells_any (G : Option Addr) (n cg : Nat) (gs : List Gl) (T : Option Addr) (m ct : Nat) (ts : List Sti) (F : Option Addr) (nf cf : Nat) (cs : List Sc) (w : World) (hG : RdSl 2 RGl w G n gs) (hT : RdSl 4 RSti w T m ts) (hln : n ≤ 9223372036854775807) (hlm : m ≤ 9223372036854775807) (hgn : ∀ e ∈ gs, e.name.size ≤ 9223372036854775807) (htn : ∀ e ∈ ts, e.name.size ≤ 9223372036854775807 ∧ e.sides.length ≤ 9223372036854775807 ∧ e.on.length ≤ 9223372036854775807 ∧ e.fires.length ≤ 9223372036854775807) (hF : RdSl 6 RSc w F nf cs) (hlnf : nf ≤ 9223372036854775807) (hfn : ∀ e ∈ cs, e.on.length ≤ 9223372036854775807 ∧ e.bound.length ≤ 9223372036854775807 ∧ e.fired.length ≤ 9223372036854775807) :
    Calls Try.prog 3 #[.agg #[.slice G n cg, .slice T m ct], .slice F nf cf] w fun e w' => e = .returned (.bool true) ∧ Below w.heap.size w w' := by
  have hgnH := Lib.hid hgn
  have htnH := Lib.hid htn
  have hgk := Lib.hid (fun (k : Nat) (e : Gl) (h : gs[k]? = some e) => hgn e (List.mem_of_getElem? h))
  have htk := Lib.hid (fun (k : Nat) (e : Sti) (h : ts[k]? = some e) => htn e (List.mem_of_getElem? h))
  clear hgn htn
  have hfnH := Lib.hid hfn
  clear hfn
  go_enter Try.func3, Try.ntmps3
  have kw := bl_refl w
  go_wp2_with fail
  refine (szSignalSet_any _ _ _ _ _ _ gs ts _ _ (hG.below RGl.stable bk_) (hT.below RSti.stable bk_) (by omega) (by omega) hln hlm hgnH.out htnH.out).mono ?_
  rintro e w1 ⟨r1, rfl, (rfl | ⟨hr10, hr11, ⟨hzn, hx1⟩, hzm, hx2⟩), hb1⟩
  · go_wp2
    go_ret
    exact ⟨rfl, bl_tr bk_ hb1⟩
  have htsH := Lib.hid (show ∀ e ∈ ts, e.sides.length ≤ 1073741824 ∧ e.on.length ≤ 1073741824 ∧ e.fires.length ≤ 1073741824 from fun e he => by have := hx2 e he; omega)
  have hbsK := Lib.hid (show BigS ts from fun k e he => ⟨(htk.out k e he).1, htsH.out e (List.mem_of_getElem? he)⟩)
  clear hx1 hx2
  have s1 : w.heap.size + 1 ≤ w1.heap.size := by have := hb1.size; (try simp at this); omega
  have s1H := Lib.hid s1
  have kw_1 : Below w.heap.size w w1 := bl_tr bk_ hb1
  have lb0_1 : w.heap.size < w1.heap.size := Nat.lt_of_lt_of_le (by go_simp) hb1.size
  have yb0_0_1 : w1.cell? ⟨w.heap.size, 0, none⟩ = some (.slice G n cg) := (hb1.cell (p := ⟨w.heap.size, 0, none⟩) (by go_simp)).trans (by go_simp)
  have yb0_1_1 : w1.cell? ⟨w.heap.size, 1, none⟩ = some (.slice T m ct) := (hb1.cell (p := ⟨w.heap.size, 1, none⟩) (by go_simp)).trans (by go_simp)
  clear kw s1
  clear hb1
  go_wp2_with fail
  refine (szSignalCellS_any _ _ _ cs _ _ (hF.below RSc.stable bk_) (by omega) (by omega) hlnf hfnH.out).mono ?_
  rintro e w2 ⟨r2, rfl, (rfl | ⟨hr20, hr21, hznf, hx3⟩), hb2⟩
  · go_wp2
    go_ret
    exact ⟨rfl, bl_tr bk_ hb2⟩
  have hfsH := Lib.hid (show ∀ e ∈ cs, e.on.length ≤ 1073741824 ∧ e.bound.length ≤ 1073741824 ∧ e.fired.length ≤ 1073741824 from fun e he => by have := hx3 e he; omega)
  clear hx3
  have s2 : w1.heap.size ≤ w2.heap.size := by have := hb2.size; (try simp at this); omega
  have s2H := Lib.hid s2
  have kw_2 : Below w.heap.size w w2 := bl_tr bk_ hb2
  have lb0_2 : w.heap.size < w2.heap.size := Nat.lt_of_lt_of_le (by go_simp) hb2.size
  have yb0_0_2 : w2.cell? ⟨w.heap.size, 0, none⟩ = some (.slice G n cg) := (hb2.cell (p := ⟨w.heap.size, 0, none⟩) (by go_simp)).trans (by go_simp)
  have yb0_1_2 : w2.cell? ⟨w.heap.size, 1, none⟩ = some (.slice T m ct) := (hb2.cell (p := ⟨w.heap.size, 1, none⟩) (by go_simp)).trans (by go_simp)
  clear yb0_1_1 yb0_0_1 lb0_1 kw_1 s2
  clear hb2
  go_wp2_with fail
  refine (toSignalSet_any _ _ _ _ _ _ gs ts _ (hG.below RGl.stable bk_) (hT.below RSti.stable bk_) (by omega) (by omega) htsH.out).mono ?_
  rintro e w3 ⟨G3, T3, rfl, o3, p3, hb3⟩
  have s3 : w2.heap.size ≤ w3.heap.size := by have := hb3.size; (try simp at this); omega
  have s3H := Lib.hid s3
  have kw_3 : Below w.heap.size w w3 := bl_tr bk_ hb3
  have lb0_3 : w.heap.size < w3.heap.size := Nat.lt_of_lt_of_le (by go_simp) hb3.size
  have yb0_0_3 : w3.cell? ⟨w.heap.size, 0, none⟩ = some (.slice G n cg) := (hb3.cell (p := ⟨w.heap.size, 0, none⟩) (by go_simp)).trans (by go_simp)
  have yb0_1_3 : w3.cell? ⟨w.heap.size, 1, none⟩ = some (.slice T m ct) := (hb3.cell (p := ⟨w.heap.size, 1, none⟩) (by go_simp)).trans (by go_simp)
  clear yb0_1_2 yb0_0_2 lb0_2 kw_2 s3
  clear hb3
  have kc3 : Below w3.heap.size w3 w3 := bl_refl _
  have o3H := Lib.hid o3
  clear o3
  have p3H := Lib.hid p3
  clear p3
  go_wp2_with fail
  refine (toSignalCellS_any _ _ _ cs _ (hF.below RSc.stable bk_) (by omega) hfsH.out).mono ?_
  rintro e w4 ⟨F4, rfl, o4, hb4⟩
  have s4 : w3.heap.size ≤ w4.heap.size := by have := hb4.size; (try simp at this); omega
  have s4H := Lib.hid s4
  have kw_4 : Below w.heap.size w w4 := bl_tr bk_ hb4
  have kc3_4 : Below w3.heap.size w3 w4 := bl_tr bk_ hb4
  have lb0_4 : w.heap.size < w4.heap.size := Nat.lt_of_lt_of_le (by go_simp) hb4.size
  have yb0_0_4 : w4.cell? ⟨w.heap.size, 0, none⟩ = some (.slice G n cg) := (hb4.cell (p := ⟨w.heap.size, 0, none⟩) (by go_simp)).trans (by go_simp)
  have yb0_1_4 : w4.cell? ⟨w.heap.size, 1, none⟩ = some (.slice T m ct) := (hb4.cell (p := ⟨w.heap.size, 1, none⟩) (by go_simp)).trans (by go_simp)
  clear yb0_1_3 yb0_0_3 lb0_3 kc3 kw_3 s4
  clear hb4
  have kc4 : Below w4.heap.size w4 w4 := bl_refl _
  have o4H := Lib.hid o4
  clear o4
  go_wp2_with fail
  refine (sValidCells_any _ _ _ _ _ _ _ _ _ gs ts cs _ (o3H.out.below RGl.stable bk_) (p3H.out.below RSti.stable bk_) (o4H.out.below RSc.stable bk_) (by omega) (by omega) (by omega) hgk.out hbsK.out).mono ?_
  rintro e w5 ⟨rfl, hb5⟩
  have s5 : w4.heap.size ≤ w5.heap.size := by have := hb5.size; (try simp at this); omega
  have s5H := Lib.hid s5
  have kw_5 : Below w.heap.size w w5 := bl_tr bk_ hb5
  have kc3_5 : Below w3.heap.size w3 w5 := bl_tr bk_ hb5
  have kc4_5 : Below w4.heap.size w4 w5 := bl_tr bk_ hb5
  have lb0_5 : w.heap.size < w5.heap.size := Nat.lt_of_lt_of_le (by go_simp) hb5.size
  have yb0_0_5 : w5.cell? ⟨w.heap.size, 0, none⟩ = some (.slice G n cg) := (hb5.cell (p := ⟨w.heap.size, 0, none⟩) (by go_simp)).trans (by go_simp)
  have yb0_1_5 : w5.cell? ⟨w.heap.size, 1, none⟩ = some (.slice T m ct) := (hb5.cell (p := ⟨w.heap.size, 1, none⟩) (by go_simp)).trans (by go_simp)
  clear yb0_1_4 yb0_0_4 lb0_4 kc4 kc3_4 kw_4 s5
  clear hb5
  have kr5 : Below w5.heap.size w5 w5 := bl_refl _
  go_wp2_with fail
  refine (toSignalSet_any _ _ _ _ _ _ gs ts _ (hG.below RGl.stable bk_) (hT.below RSti.stable bk_) (by omega) (by omega) htsH.out).mono ?_
  rintro e w6 ⟨G6, T6, rfl, o6, p6, hb6⟩
  have s6 : w5.heap.size ≤ w6.heap.size := by have := hb6.size; (try simp at this); omega
  have s6H := Lib.hid s6
  have kw_6 : Below w.heap.size w w6 := bl_tr bk_ hb6
  have kc3_6 : Below w3.heap.size w3 w6 := bl_tr bk_ hb6
  have kc4_6 : Below w4.heap.size w4 w6 := bl_tr bk_ hb6
  have kr5_6 : Below w5.heap.size w5 w6 := bl_tr bk_ hb6
  have lb0_6 : w.heap.size < w6.heap.size := Nat.lt_of_lt_of_le (by go_simp) hb6.size
  have yb0_0_6 : w6.cell? ⟨w.heap.size, 0, none⟩ = some (.slice G n cg) := (hb6.cell (p := ⟨w.heap.size, 0, none⟩) (by go_simp)).trans (by go_simp)
  have yb0_1_6 : w6.cell? ⟨w.heap.size, 1, none⟩ = some (.slice T m ct) := (hb6.cell (p := ⟨w.heap.size, 1, none⟩) (by go_simp)).trans (by go_simp)
  clear yb0_1_5 yb0_0_5 lb0_5 kr5 kc4_5 kc3_5 kw_5 s6
  clear hb6
  have kc6 : Below w6.heap.size w6 w6 := bl_refl _
  have o6H := Lib.hid o6
  clear o6
  have p6H := Lib.hid p6
  clear p6
  go_wp2_with fail
  refine (toSignalCellS_any _ _ _ cs _ (hF.below RSc.stable bk_) (by omega) hfsH.out).mono ?_
  rintro e w7 ⟨F7, rfl, o7, hb7⟩
  have s7 : w6.heap.size + 1 ≤ w7.heap.size := by have := hb7.size; (try simp at this); omega
  have s7H := Lib.hid s7
  have kw_7 : Below w.heap.size w w7 := bl_tr bk_ hb7
  have kc3_7 : Below w3.heap.size w3 w7 := bl_tr bk_ hb7
  have kc4_7 : Below w4.heap.size w4 w7 := bl_tr bk_ hb7
  have kr5_7 : Below w5.heap.size w5 w7 := bl_tr bk_ hb7
  have kc6_7 : Below w6.heap.size w6 w7 := bl_tr bk_ hb7
  have lb0_7 : w.heap.size < w7.heap.size := Nat.lt_of_lt_of_le (by go_simp) hb7.size
  have yb0_0_7 : w7.cell? ⟨w.heap.size, 0, none⟩ = some (.slice G n cg) := (hb7.cell (p := ⟨w.heap.size, 0, none⟩) (by go_simp)).trans (by go_simp)
  have yb0_1_7 : w7.cell? ⟨w.heap.size, 1, none⟩ = some (.slice T m ct) := (hb7.cell (p := ⟨w.heap.size, 1, none⟩) (by go_simp)).trans (by go_simp)
  have lb1_7 : w6.heap.size < w7.heap.size := Nat.lt_of_lt_of_le (by go_simp) hb7.size
  have yb1_0_7 : w7.cell? ⟨w6.heap.size, 0, none⟩ = some (.slice G6 n n) := (hb7.cell (p := ⟨w6.heap.size, 0, none⟩) (by go_simp)).trans (by go_simp)
  have yb1_1_7 : w7.cell? ⟨w6.heap.size, 1, none⟩ = some (.slice T6 m m) := (hb7.cell (p := ⟨w6.heap.size, 1, none⟩) (by go_simp)).trans (by go_simp)
  clear yb0_1_6 yb0_0_6 lb0_6 kc6 kr5_6 kc4_6 kc3_6 kw_6 s7
  clear hb7
  have kc7 : Below w7.heap.size w7 w7 := bl_refl _
  have o7H := Lib.hid o7
  clear o7
  go_wp2_with fail
  refine (ValidCells_any _ _ _ _ _ _ _ _ _ gs ts cs _ (o6H.out.below RGl.stable bk_) (p6H.out.below RSti.stable bk_) (o7H.out.below RSc.stable bk_) (by omega) (by omega) (by omega) hgk.out hbsK.out).mono ?_
  rintro e w8 ⟨rfl, hb8⟩
  have s8 : w7.heap.size ≤ w8.heap.size := by have := hb8.size; (try simp at this); omega
  have s8H := Lib.hid s8
  have kw_8 : Below w.heap.size w w8 := bl_tr bk_ hb8
  have kc3_8 : Below w3.heap.size w3 w8 := bl_tr bk_ hb8
  have kc4_8 : Below w4.heap.size w4 w8 := bl_tr bk_ hb8
  have kr5_8 : Below w5.heap.size w5 w8 := bl_tr bk_ hb8
  have kc6_8 : Below w6.heap.size w6 w8 := bl_tr bk_ hb8
  have kc7_8 : Below w7.heap.size w7 w8 := bl_tr bk_ hb8
  have lb0_8 : w.heap.size < w8.heap.size := Nat.lt_of_lt_of_le (by go_simp) hb8.size
  have yb0_0_8 : w8.cell? ⟨w.heap.size, 0, none⟩ = some (.slice G n cg) := (hb8.cell (p := ⟨w.heap.size, 0, none⟩) (by go_simp)).trans (by go_simp)
  have yb0_1_8 : w8.cell? ⟨w.heap.size, 1, none⟩ = some (.slice T m ct) := (hb8.cell (p := ⟨w.heap.size, 1, none⟩) (by go_simp)).trans (by go_simp)
  have lb1_8 : w6.heap.size < w8.heap.size := Nat.lt_of_lt_of_le (by go_simp) hb8.size
  have yb1_0_8 : w8.cell? ⟨w6.heap.size, 0, none⟩ = some (.slice G6 n n) := (hb8.cell (p := ⟨w6.heap.size, 0, none⟩) (by go_simp)).trans (by go_simp)
  have yb1_1_8 : w8.cell? ⟨w6.heap.size, 1, none⟩ = some (.slice T6 m m) := (hb8.cell (p := ⟨w6.heap.size, 1, none⟩) (by go_simp)).trans (by go_simp)
  clear yb1_1_7 yb1_0_7 lb1_7 yb0_1_7 yb0_0_7 lb0_7 kc7 kc6_7 kr5_7 kc4_7 kc3_7 kw_7 s8
  clear hb8
  have kr8 : Below w8.heap.size w8 w8 := bl_refl _
  go_wp2_with fail
  refine wp_region_ord [(0, .q), (1, .q), (2, .g), (3, .g), (4, .q)] (by kernel_rfl) (by kernel_rfl) ?_
  simp only [pick, List.filterMap_cons, List.filterMap_nil, List.getElem?_toArray, List.getElem?_cons_zero, List.getElem?_cons_succ, Option.map_some]
  repeat (first | ((with_reducible refine wpD_p (fun K hK => ?_)); go_simp; refine hK _ ?_; clear hK K) | ((with_reducible refine wpD_q (fun K hK => ?_)); go_simp; (first | refine hK _ ?_ | (go_bits; refine hK _ ?_) | (go_bits; go_simp; refine hK _ ?_)); clear hK K))
  with_reducible refine wpD_g (fun K hK => ?_)
  go_simp
  refine (toSignalSet_any _ _ _ _ _ _ gs ts _ (hG.below RGl.stable bk_) (hT.below RSti.stable bk_) (by omega) (by omega) htsH.out).mono ?_
  rintro e w9 ⟨G9, T9, rfl, o9, p9, hb9⟩
  refine ⟨_, rfl, hb9, hK _ _ ?_⟩
  clear hK K
  have s9 : w8.heap.size ≤ w9.heap.size := by have := hb9.size; (try simp at this); omega
  have s9H := Lib.hid s9
  have kw_9 : Below w.heap.size w w9 := bl_tr bk_ hb9
  have kc3_9 : Below w3.heap.size w3 w9 := bl_tr bk_ hb9
  have kc4_9 : Below w4.heap.size w4 w9 := bl_tr bk_ hb9
  have kr5_9 : Below w5.heap.size w5 w9 := bl_tr bk_ hb9
  have kc6_9 : Below w6.heap.size w6 w9 := bl_tr bk_ hb9
  have kc7_9 : Below w7.heap.size w7 w9 := bl_tr bk_ hb9
  have kr8_9 : Below w8.heap.size w8 w9 := bl_tr bk_ hb9
  have lb0_9 : w.heap.size < w9.heap.size := Nat.lt_of_lt_of_le (by go_simp) hb9.size
  have yb0_0_9 : w9.cell? ⟨w.heap.size, 0, none⟩ = some (.slice G n cg) := (hb9.cell (p := ⟨w.heap.size, 0, none⟩) (by go_simp)).trans (by go_simp)
  have yb0_1_9 : w9.cell? ⟨w.heap.size, 1, none⟩ = some (.slice T m ct) := (hb9.cell (p := ⟨w.heap.size, 1, none⟩) (by go_simp)).trans (by go_simp)
  have lb1_9 : w6.heap.size < w9.heap.size := Nat.lt_of_lt_of_le (by go_simp) hb9.size
  have yb1_0_9 : w9.cell? ⟨w6.heap.size, 0, none⟩ = some (.slice G6 n n) := (hb9.cell (p := ⟨w6.heap.size, 0, none⟩) (by go_simp)).trans (by go_simp)
  have yb1_1_9 : w9.cell? ⟨w6.heap.size, 1, none⟩ = some (.slice T6 m m) := (hb9.cell (p := ⟨w6.heap.size, 1, none⟩) (by go_simp)).trans (by go_simp)
  clear yb1_1_8 yb1_0_8 lb1_8 yb0_1_8 yb0_0_8 lb0_8 kr8 kc7_8 kc6_8 kr5_8 kc4_8 kc3_8 kw_8 s9
  clear hb9
  have kc9 : Below w9.heap.size w9 w9 := bl_refl _
  have o9H := Lib.hid o9
  clear o9
  have p9H := Lib.hid p9
  clear p9
  with_reducible refine wpD_g (fun K hK => ?_)
  go_simp
  refine (eqSignalSet_same _ _ _ _ _ _ _ _ _ _ gs ts _ (o6H.out.below RGl.stable bk_) (o9H.out.below RGl.stable bk_) (p6H.out.below RSti.stable bk_) (p9H.out.below RSti.stable bk_) (by omega) (by omega) htsH.out).mono ?_
  rintro e w10 ⟨rfl, hb10⟩
  refine ⟨_, rfl, hb10, hK _ _ ?_⟩
  clear hK K
  have s10 : w9.heap.size ≤ w10.heap.size := by have := hb10.size; (try simp at this); omega
  have s10H := Lib.hid s10
  have kw_10 : Below w.heap.size w w10 := bl_tr bk_ hb10
  have kc3_10 : Below w3.heap.size w3 w10 := bl_tr bk_ hb10
  have kc4_10 : Below w4.heap.size w4 w10 := bl_tr bk_ hb10
  have kr5_10 : Below w5.heap.size w5 w10 := bl_tr bk_ hb10
  have kc6_10 : Below w6.heap.size w6 w10 := bl_tr bk_ hb10
  have kc7_10 : Below w7.heap.size w7 w10 := bl_tr bk_ hb10
  have kr8_10 : Below w8.heap.size w8 w10 := bl_tr bk_ hb10
  have kc9_10 : Below w9.heap.size w9 w10 := bl_tr bk_ hb10
  have lb0_10 : w.heap.size < w10.heap.size := Nat.lt_of_lt_of_le (by go_simp) hb10.size
  have yb0_0_10 : w10.cell? ⟨w.heap.size, 0, none⟩ = some (.slice G n cg) := (hb10.cell (p := ⟨w.heap.size, 0, none⟩) (by go_simp)).trans (by go_simp)
  have yb0_1_10 : w10.cell? ⟨w.heap.size, 1, none⟩ = some (.slice T m ct) := (hb10.cell (p := ⟨w.heap.size, 1, none⟩) (by go_simp)).trans (by go_simp)
  have lb1_10 : w6.heap.size < w10.heap.size := Nat.lt_of_lt_of_le (by go_simp) hb10.size
  have yb1_0_10 : w10.cell? ⟨w6.heap.size, 0, none⟩ = some (.slice G6 n n) := (hb10.cell (p := ⟨w6.heap.size, 0, none⟩) (by go_simp)).trans (by go_simp)
  have yb1_1_10 : w10.cell? ⟨w6.heap.size, 1, none⟩ = some (.slice T6 m m) := (hb10.cell (p := ⟨w6.heap.size, 1, none⟩) (by go_simp)).trans (by go_simp)
  clear yb1_1_9 yb1_0_9 lb1_9 yb0_1_9 yb0_0_9 lb0_9 kc9 kr8_9 kc7_9 kc6_9 kr5_9 kc4_9 kc3_9 kw_9 s10
  clear hb10
  repeat (first | ((with_reducible refine wpD_p (fun K hK => ?_)); go_simp; refine hK _ ?_; clear hK K) | ((with_reducible refine wpD_q (fun K hK => ?_)); go_simp; (first | refine hK _ ?_ | (go_bits; refine hK _ ?_) | (go_bits; go_simp; refine hK _ ?_)); clear hK K))
  with_reducible refine wpD_nil ?_
  go_wp2_with fail
  refine (toSignalCellS_any _ _ _ cs _ (hF.below RSc.stable bk_) (by omega) hfsH.out).mono ?_
  rintro e w11 ⟨F11, rfl, o11, hb11⟩
  have s11 : w10.heap.size ≤ w11.heap.size := by have := hb11.size; (try simp at this); omega
  have s11H := Lib.hid s11
  have kw_11 : Below w.heap.size w w11 := bl_tr bk_ hb11
  have kc3_11 : Below w3.heap.size w3 w11 := bl_tr bk_ hb11
  have kc4_11 : Below w4.heap.size w4 w11 := bl_tr bk_ hb11
  have kr5_11 : Below w5.heap.size w5 w11 := bl_tr bk_ hb11
  have kc6_11 : Below w6.heap.size w6 w11 := bl_tr bk_ hb11
  have kc7_11 : Below w7.heap.size w7 w11 := bl_tr bk_ hb11
  have kr8_11 : Below w8.heap.size w8 w11 := bl_tr bk_ hb11
  have kc9_11 : Below w9.heap.size w9 w11 := bl_tr bk_ hb11
  have lb0_11 : w.heap.size < w11.heap.size := Nat.lt_of_lt_of_le (by go_simp) hb11.size
  have yb0_0_11 : w11.cell? ⟨w.heap.size, 0, none⟩ = some (.slice G n cg) := (hb11.cell (p := ⟨w.heap.size, 0, none⟩) (by go_simp)).trans (by go_simp)
  have yb0_1_11 : w11.cell? ⟨w.heap.size, 1, none⟩ = some (.slice T m ct) := (hb11.cell (p := ⟨w.heap.size, 1, none⟩) (by go_simp)).trans (by go_simp)
  have lb1_11 : w6.heap.size < w11.heap.size := Nat.lt_of_lt_of_le (by go_simp) hb11.size
  have yb1_0_11 : w11.cell? ⟨w6.heap.size, 0, none⟩ = some (.slice G6 n n) := (hb11.cell (p := ⟨w6.heap.size, 0, none⟩) (by go_simp)).trans (by go_simp)
  have yb1_1_11 : w11.cell? ⟨w6.heap.size, 1, none⟩ = some (.slice T6 m m) := (hb11.cell (p := ⟨w6.heap.size, 1, none⟩) (by go_simp)).trans (by go_simp)
  clear yb1_1_10 yb1_0_10 lb1_10 yb0_1_10 yb0_0_10 lb0_10 kc9_10 kr8_10 kc7_10 kc6_10 kr5_10 kc4_10 kc3_10 kw_10 s11
  clear hb11
  have kc11 : Below w11.heap.size w11 w11 := bl_refl _
  have o11H := Lib.hid o11
  clear o11
  go_wp2_with fail
  refine (eqSignalCellS_same _ _ _ _ _ cs _ (o7H.out.below RSc.stable bk_) (o11H.out.below RSc.stable bk_) (by omega) hfsH.out).mono ?_
  rintro e w12 ⟨rfl, hb12⟩
  have s12 : w11.heap.size ≤ w12.heap.size := by have := hb12.size; (try simp at this); omega
  have s12H := Lib.hid s12
  have kw_12 : Below w.heap.size w w12 := bl_tr bk_ hb12
  have kc3_12 : Below w3.heap.size w3 w12 := bl_tr bk_ hb12
  have kc4_12 : Below w4.heap.size w4 w12 := bl_tr bk_ hb12
  have kr5_12 : Below w5.heap.size w5 w12 := bl_tr bk_ hb12
  have kc6_12 : Below w6.heap.size w6 w12 := bl_tr bk_ hb12
  have kc7_12 : Below w7.heap.size w7 w12 := bl_tr bk_ hb12
  have kr8_12 : Below w8.heap.size w8 w12 := bl_tr bk_ hb12
  have kc9_12 : Below w9.heap.size w9 w12 := bl_tr bk_ hb12
  have kc11_12 : Below w11.heap.size w11 w12 := bl_tr bk_ hb12
  have lb0_12 : w.heap.size < w12.heap.size := Nat.lt_of_lt_of_le (by go_simp) hb12.size
  have yb0_0_12 : w12.cell? ⟨w.heap.size, 0, none⟩ = some (.slice G n cg) := (hb12.cell (p := ⟨w.heap.size, 0, none⟩) (by go_simp)).trans (by go_simp)
  have yb0_1_12 : w12.cell? ⟨w.heap.size, 1, none⟩ = some (.slice T m ct) := (hb12.cell (p := ⟨w.heap.size, 1, none⟩) (by go_simp)).trans (by go_simp)
  have lb1_12 : w6.heap.size < w12.heap.size := Nat.lt_of_lt_of_le (by go_simp) hb12.size
  have yb1_0_12 : w12.cell? ⟨w6.heap.size, 0, none⟩ = some (.slice G6 n n) := (hb12.cell (p := ⟨w6.heap.size, 0, none⟩) (by go_simp)).trans (by go_simp)
  have yb1_1_12 : w12.cell? ⟨w6.heap.size, 1, none⟩ = some (.slice T6 m m) := (hb12.cell (p := ⟨w6.heap.size, 1, none⟩) (by go_simp)).trans (by go_simp)
  clear yb1_1_11 yb1_0_11 lb1_11 yb0_1_11 yb0_0_11 lb0_11 kc11 kc9_11 kr8_11 kc7_11 kc6_11 kr5_11 kc4_11 kc3_11 kw_11 s12
  clear hb12
  go_wp2_with fail
  go_ret
  exact ⟨rfl, bk_⟩
end Go.Proofs.Ytbipnnjkddffbaa
