/- Walk: the law FnExactPlayMerges. -/
import Derived.Test.YtpdpkanlmhigfaaGreatKV
import Derived.Test.YtpdpkanlmhigfaaGreatKH
import Derived.Test.YtpdpkanlmhigfaaGreatKO
import Derived.Test.YtpdpkanlmhigfaaGreatKM
import Derived.Test.YtpdpkanlmhigfaaGreatHMr
import Derived.Test.YtpdpkanlmhigfaaGreatHEq
import Derived.Test.YtpdpkanlmhigfaaGreatHSz
namespace Go.Proofs.YtpdpkanlmhigfaaGreat
open Go.RowKit
set_option linter.unusedSimpArgs false
set_option linter.unusedVariables false
attribute [local go_sem] BelowBy.cell BelowBy.cell_drew stillUpon givesUpon BelowBy.cell_drew2 BelowBy.cell_drew3

set_option maxRecDepth 100000 in
set_option maxHeartbeats 4000000 in
theorem FnExactPlayMerges_any (G : Option Addr) (n cg : Nat) (gs : List Gl) (T : Option Addr) (m ct : Nat) (ts : List Ti) (tt : Int) (F : Option Addr) (nf cf : Nat) (ms : List Mr) (w : World) (hG : RdSl 2 RGl w G n gs) (hT : RdSl 2 RTi w T m ts) (hln : n ≤ 9223372036854775807) (hlm : m ≤ 9223372036854775807) (hgn : ∀ e ∈ gs, e.name.size ≤ 9223372036854775807) (htn : ∀ e ∈ ts, e.name.size ≤ 9223372036854775807 ∧ e.sides.length ≤ 9223372036854775807)  (hF : RdSl 4 RMr w F nf ms) (hlnf : nf ≤ 9223372036854775807) :
    Calls Tryz.prog 3 #[.agg #[.slice G n cg, .slice T m ct], .int .i64 tt, .slice F nf cf] w fun e w' => e = .returned (.bool true) ∧ Below w.heap.size w w' := by
  have hgnH := Lib.hid hgn
  have htnH := Lib.hid htn
  have hgk := Lib.hid (fun (k : Nat) (e : Gl) (h : gs[k]? = some e) => hgn e (List.mem_of_getElem? h))
  have htk := Lib.hid (fun (k : Nat) (e : Ti) (h : ts[k]? = some e) => htn e (List.mem_of_getElem? h))
  clear hgn htn
  have hRl := Lib.hid (playR_len gs ts tt ms)
  go_enter Tryz.func3, Tryz.ntmps3
  have kw := bl_refl w
  go_wp2_with fail
  refine (szTileSet_any _ _ _ _ _ _ gs ts _ _ (hG.below RGl.stable bk_) (hT.below RTi.stable bk_) (by omega) (by omega) hln hlm hgnH.out htnH.out).mono ?_
  rintro e w1 ⟨r1, rfl, (rfl | ⟨hr10, hr11, ⟨hzn, hx1⟩, hzm, hx2⟩), hb1⟩
  · go_wp2
    go_ret
    exact ⟨rfl, bl_tr bk_ hb1⟩
  have htsH := Lib.hid (show ∀ e ∈ ts, e.sides.length ≤ 1073741824 from fun e he => by have := (hx2 e he).2; omega)
  clear hx1 hx2
  have s1 : w.heap.size + 1 ≤ w1.heap.size := by have := hb1.size; (try simp at this); omega
  have s1H := Lib.hid s1
  have kw_1 : Below w.heap.size w w1 := bl_tr bk_ hb1
  have lb0_1 : w.heap.size < w1.heap.size := Nat.lt_of_lt_of_le (by go_simp) hb1.size
  have yb0_0_1 : w1.cell? ⟨w.heap.size, 0, none⟩ = some (.slice G n cg) := (hb1.cell (p := ⟨w.heap.size, 0, none⟩) (by go_simp)).trans (by go_simp)
  have yb0_1_1 : w1.cell? ⟨w.heap.size, 1, none⟩ = some (.slice T m ct) := (hb1.cell (p := ⟨w.heap.size, 1, none⟩) (by go_simp)).trans (by go_simp)
  clear kw s1
  clear hb1
  go_wp2_with fail
  refine (szMergeS_any _ _ _ _ _ (by omega) (by omega) hlnf).mono ?_
  rintro e w2 ⟨r2, rfl, (rfl | ⟨hr20, hr21, hznf⟩), hb2⟩
  · go_wp2
    go_ret
    exact ⟨rfl, bl_tr bk_ hb2⟩
  have s2 : w1.heap.size ≤ w2.heap.size := by have := hb2.size; (try simp at this); omega
  have s2H := Lib.hid s2
  have kw_2 : Below w.heap.size w w2 := bl_tr bk_ hb2
  have lb0_2 : w.heap.size < w2.heap.size := Nat.lt_of_lt_of_le (by go_simp) hb2.size
  have yb0_0_2 : w2.cell? ⟨w.heap.size, 0, none⟩ = some (.slice G n cg) := (hb2.cell (p := ⟨w.heap.size, 0, none⟩) (by go_simp)).trans (by go_simp)
  have yb0_1_2 : w2.cell? ⟨w.heap.size, 1, none⟩ = some (.slice T m ct) := (hb2.cell (p := ⟨w.heap.size, 1, none⟩) (by go_simp)).trans (by go_simp)
  clear yb0_1_1 yb0_0_1 lb0_1 kw_1 s2
  clear hb2
  go_wp2_with fail
  refine (toTileSet_any _ _ _ _ _ _ gs ts _ (hG.below RGl.stable bk_) (hT.below RTi.stable bk_) (by omega) (by omega) htsH.out).mono ?_
  rintro e w3 ⟨G3, T3, rfl, o3, p3, hb3⟩
  have s3 : w2.heap.size ≤ w3.heap.size := by have := hb3.size; (try simp at this); omega
  have s3H := Lib.hid s3
  have kw_3 : Below w.heap.size w w3 := bl_tr bk_ hb3
  have lb0_3 : w.heap.size < w3.heap.size := Nat.lt_of_lt_of_le (by go_simp) hb3.size
  have yb0_0_3 : w3.cell? ⟨w.heap.size, 0, none⟩ = some (.slice G n cg) := (hb3.cell (p := ⟨w.heap.size, 0, none⟩) (by go_simp)).trans (by go_simp)
  have yb0_1_3 : w3.cell? ⟨w.heap.size, 1, none⟩ = some (.slice T m ct) := (hb3.cell (p := ⟨w.heap.size, 1, none⟩) (by go_simp)).trans (by go_simp)
  clear yb0_1_2 yb0_0_2 lb0_2 kw_2 s3
  clear hb3
  have kc3 : Below w3.heap.size w3 w3 := bl_refl _
  have o3H := Lib.hid o3
  clear o3
  have p3H := Lib.hid p3
  clear p3
  go_wp2_with fail
  refine (toMergeS_any _ _ _ ms _ (hF.below RMr.stable bk_) (by omega)).mono ?_
  rintro e w4 ⟨F4, rfl, o4, hb4⟩
  have s4 : w3.heap.size ≤ w4.heap.size := by have := hb4.size; (try simp at this); omega
  have s4H := Lib.hid s4
  have kw_4 : Below w.heap.size w w4 := bl_tr bk_ hb4
  have kc3_4 : Below w3.heap.size w3 w4 := bl_tr bk_ hb4
  have lb0_4 : w.heap.size < w4.heap.size := Nat.lt_of_lt_of_le (by go_simp) hb4.size
  have yb0_0_4 : w4.cell? ⟨w.heap.size, 0, none⟩ = some (.slice G n cg) := (hb4.cell (p := ⟨w.heap.size, 0, none⟩) (by go_simp)).trans (by go_simp)
  have yb0_1_4 : w4.cell? ⟨w.heap.size, 1, none⟩ = some (.slice T m ct) := (hb4.cell (p := ⟨w.heap.size, 1, none⟩) (by go_simp)).trans (by go_simp)
  clear yb0_1_3 yb0_0_3 lb0_3 kc3 kw_3 s4
  clear hb4
  have kc4 : Below w4.heap.size w4 w4 := bl_refl _
  have o4H := Lib.hid o4
  clear o4
  go_wp2_with fail
  refine (sPlayMerges_any _ _ _ _ _ _ _ _ _ gs ts tt ms _ ⟨o3H.out.rd.below RGl.stable bk_, p3H.out.rdTi.below RTi.stable bk_, by omega, by omega, hgk.out, htk.out⟩ (o4H.out.rd.below RMr.stable bk_) (by omega)).mono ?_
  rintro e w5 ⟨V5, c5, rfl, v5, hb5⟩
  have s5 : w4.heap.size ≤ w5.heap.size := by have := hb5.size; (try simp at this); omega
  have s5H := Lib.hid s5
  have kw_5 : Below w.heap.size w w5 := bl_tr bk_ hb5
  have kc3_5 : Below w3.heap.size w3 w5 := bl_tr bk_ hb5
  have kc4_5 : Below w4.heap.size w4 w5 := bl_tr bk_ hb5
  have lb0_5 : w.heap.size < w5.heap.size := Nat.lt_of_lt_of_le (by go_simp) hb5.size
  have yb0_0_5 : w5.cell? ⟨w.heap.size, 0, none⟩ = some (.slice G n cg) := (hb5.cell (p := ⟨w.heap.size, 0, none⟩) (by go_simp)).trans (by go_simp)
  have yb0_1_5 : w5.cell? ⟨w.heap.size, 1, none⟩ = some (.slice T m ct) := (hb5.cell (p := ⟨w.heap.size, 1, none⟩) (by go_simp)).trans (by go_simp)
  clear yb0_1_4 yb0_0_4 lb0_4 kc4 kc3_4 kw_4 s5
  clear hb5
  have kr5 : Below w5.heap.size w5 w5 := bl_refl _
  have v5H := Lib.hid v5
  clear v5
  go_wp2_with fail
  refine (toTileSet_any _ _ _ _ _ _ gs ts _ (hG.below RGl.stable bk_) (hT.below RTi.stable bk_) (by omega) (by omega) htsH.out).mono ?_
  rintro e w6 ⟨G6, T6, rfl, o6, p6, hb6⟩
  have s6 : w5.heap.size + 1 ≤ w6.heap.size := by have := hb6.size; (try simp at this); omega
  have s6H := Lib.hid s6
  have kw_6 : Below w.heap.size w w6 := bl_tr bk_ hb6
  have kc3_6 : Below w3.heap.size w3 w6 := bl_tr bk_ hb6
  have kc4_6 : Below w4.heap.size w4 w6 := bl_tr bk_ hb6
  have kr5_6 : Below w5.heap.size w5 w6 := bl_tr bk_ hb6
  have lb0_6 : w.heap.size < w6.heap.size := Nat.lt_of_lt_of_le (by go_simp) hb6.size
  have yb0_0_6 : w6.cell? ⟨w.heap.size, 0, none⟩ = some (.slice G n cg) := (hb6.cell (p := ⟨w.heap.size, 0, none⟩) (by go_simp)).trans (by go_simp)
  have yb0_1_6 : w6.cell? ⟨w.heap.size, 1, none⟩ = some (.slice T m ct) := (hb6.cell (p := ⟨w.heap.size, 1, none⟩) (by go_simp)).trans (by go_simp)
  have lb1_6 : w5.heap.size < w6.heap.size := Nat.lt_of_lt_of_le (by go_simp) hb6.size
  have yb1_0_6 : w6.cell? ⟨w5.heap.size, 0, none⟩ = some (.slice V5 (playR gs ts tt ms).1.length c5) := (hb6.cell (p := ⟨w5.heap.size, 0, none⟩) (by go_simp)).trans (by go_simp)
  clear yb0_1_5 yb0_0_5 lb0_5 kr5 kc4_5 kc3_5 kw_5 s6
  clear hb6
  have kc6 : Below w6.heap.size w6 w6 := bl_refl _
  have o6H := Lib.hid o6
  clear o6
  have p6H := Lib.hid p6
  clear p6
  go_wp2_with fail
  refine (toMergeS_any _ _ _ ms _ (hF.below RMr.stable bk_) (by omega)).mono ?_
  rintro e w7 ⟨F7, rfl, o7, hb7⟩
  have s7 : w6.heap.size + 1 ≤ w7.heap.size := by have := hb7.size; (try simp at this); omega
  have s7H := Lib.hid s7
  have kw_7 : Below w.heap.size w w7 := bl_tr bk_ hb7
  have kc3_7 : Below w3.heap.size w3 w7 := bl_tr bk_ hb7
  have kc4_7 : Below w4.heap.size w4 w7 := bl_tr bk_ hb7
  have kr5_7 : Below w5.heap.size w5 w7 := bl_tr bk_ hb7
  have kc6_7 : Below w6.heap.size w6 w7 := bl_tr bk_ hb7
  have lb0_7 : w.heap.size < w7.heap.size := Nat.lt_of_lt_of_le (by go_simp) hb7.size
  have yb0_0_7 : w7.cell? ⟨w.heap.size, 0, none⟩ = some (.slice G n cg) := (hb7.cell (p := ⟨w.heap.size, 0, none⟩) (by go_simp)).trans (by go_simp)
  have yb0_1_7 : w7.cell? ⟨w.heap.size, 1, none⟩ = some (.slice T m ct) := (hb7.cell (p := ⟨w.heap.size, 1, none⟩) (by go_simp)).trans (by go_simp)
  have lb1_7 : w5.heap.size < w7.heap.size := Nat.lt_of_lt_of_le (by go_simp) hb7.size
  have yb1_0_7 : w7.cell? ⟨w5.heap.size, 0, none⟩ = some (.slice V5 (playR gs ts tt ms).1.length c5) := (hb7.cell (p := ⟨w5.heap.size, 0, none⟩) (by go_simp)).trans (by go_simp)
  have lb2_7 : w6.heap.size < w7.heap.size := Nat.lt_of_lt_of_le (by go_simp) hb7.size
  have yb2_0_7 : w7.cell? ⟨w6.heap.size, 0, none⟩ = some (.slice G6 n n) := (hb7.cell (p := ⟨w6.heap.size, 0, none⟩) (by go_simp)).trans (by go_simp)
  have yb2_1_7 : w7.cell? ⟨w6.heap.size, 1, none⟩ = some (.slice T6 m m) := (hb7.cell (p := ⟨w6.heap.size, 1, none⟩) (by go_simp)).trans (by go_simp)
  clear yb1_0_6 lb1_6 yb0_1_6 yb0_0_6 lb0_6 kc6 kr5_6 kc4_6 kc3_6 kw_6 s7
  clear hb7
  have kc7 : Below w7.heap.size w7 w7 := bl_refl _
  have o7H := Lib.hid o7
  clear o7
  go_wp2_with fail
  refine (PlayMerges_any _ _ _ _ _ _ _ _ _ gs ts tt ms _ ⟨o6H.out.rd.below RGl.stable bk_, p6H.out.rdTi.below RTi.stable bk_, by omega, by omega, hgk.out, htk.out⟩ (o7H.out.rd.below RMr.stable bk_) (by omega)).mono ?_
  rintro e w8 ⟨V8, c8, rfl, v8, hb8⟩
  have s8 : w7.heap.size ≤ w8.heap.size := by have := hb8.size; (try simp at this); omega
  have s8H := Lib.hid s8
  have kw_8 : Below w.heap.size w w8 := bl_tr bk_ hb8
  have kc3_8 : Below w3.heap.size w3 w8 := bl_tr bk_ hb8
  have kc4_8 : Below w4.heap.size w4 w8 := bl_tr bk_ hb8
  have kr5_8 : Below w5.heap.size w5 w8 := bl_tr bk_ hb8
  have kc6_8 : Below w6.heap.size w6 w8 := bl_tr bk_ hb8
  have kc7_8 : Below w7.heap.size w7 w8 := bl_tr bk_ hb8
  have lb0_8 : w.heap.size < w8.heap.size := Nat.lt_of_lt_of_le (by go_simp) hb8.size
  have yb0_0_8 : w8.cell? ⟨w.heap.size, 0, none⟩ = some (.slice G n cg) := (hb8.cell (p := ⟨w.heap.size, 0, none⟩) (by go_simp)).trans (by go_simp)
  have yb0_1_8 : w8.cell? ⟨w.heap.size, 1, none⟩ = some (.slice T m ct) := (hb8.cell (p := ⟨w.heap.size, 1, none⟩) (by go_simp)).trans (by go_simp)
  have lb1_8 : w5.heap.size < w8.heap.size := Nat.lt_of_lt_of_le (by go_simp) hb8.size
  have yb1_0_8 : w8.cell? ⟨w5.heap.size, 0, none⟩ = some (.slice V5 (playR gs ts tt ms).1.length c5) := (hb8.cell (p := ⟨w5.heap.size, 0, none⟩) (by go_simp)).trans (by go_simp)
  have lb2_8 : w6.heap.size < w8.heap.size := Nat.lt_of_lt_of_le (by go_simp) hb8.size
  have yb2_0_8 : w8.cell? ⟨w6.heap.size, 0, none⟩ = some (.slice G6 n n) := (hb8.cell (p := ⟨w6.heap.size, 0, none⟩) (by go_simp)).trans (by go_simp)
  have yb2_1_8 : w8.cell? ⟨w6.heap.size, 1, none⟩ = some (.slice T6 m m) := (hb8.cell (p := ⟨w6.heap.size, 1, none⟩) (by go_simp)).trans (by go_simp)
  clear yb2_1_7 yb2_0_7 lb2_7 yb1_0_7 lb1_7 yb0_1_7 yb0_0_7 lb0_7 kc7 kc6_7 kr5_7 kc4_7 kc3_7 kw_7 s8
  clear hb8
  have kr8 : Below w8.heap.size w8 w8 := bl_refl _
  have hv8 : ∀ g, (.slice V8 (playR gs ts tt ms).1.length c8 : Value).ownBlock = some g → g < w8.heap.size := fun g e => (v8.lt g e).2
  have hv8H := Lib.hid hv8
  clear hv8
  have v8H := Lib.hid v8
  clear v8
  go_wp2_with fail
  refine (eqAssembly_same _ _ _ _ _ (playR gs ts tt ms).1 _ ((rdPl v8H.out).below RPl.stable bk_) ((rdPl v5H.out).below RPl.stable bk_) hRl.out).mono ?_
  rintro e w9 ⟨rfl, hb9⟩
  have s9 : w8.heap.size + 1 ≤ w9.heap.size := by have := hb9.size; (try simp at this); omega
  have s9H := Lib.hid s9
  have kw_9 : Below w.heap.size w w9 := bl_tr bk_ hb9
  have kc3_9 : Below w3.heap.size w3 w9 := bl_tr bk_ hb9
  have kc4_9 : Below w4.heap.size w4 w9 := bl_tr bk_ hb9
  have kr5_9 : Below w5.heap.size w5 w9 := bl_tr bk_ hb9
  have kc6_9 : Below w6.heap.size w6 w9 := bl_tr bk_ hb9
  have kc7_9 : Below w7.heap.size w7 w9 := bl_tr bk_ hb9
  have kr8_9 : Below w8.heap.size w8 w9 := bl_tr bk_ hb9
  have lb0_9 : w.heap.size < w9.heap.size := Nat.lt_of_lt_of_le (by go_simp) hb9.size
  have yb0_0_9 : w9.cell? ⟨w.heap.size, 0, none⟩ = some (.slice G n cg) := (hb9.cell (p := ⟨w.heap.size, 0, none⟩) (by go_simp)).trans (by go_simp)
  have yb0_1_9 : w9.cell? ⟨w.heap.size, 1, none⟩ = some (.slice T m ct) := (hb9.cell (p := ⟨w.heap.size, 1, none⟩) (by go_simp)).trans (by go_simp)
  have lb1_9 : w5.heap.size < w9.heap.size := Nat.lt_of_lt_of_le (by go_simp) hb9.size
  have yb1_0_9 : w9.cell? ⟨w5.heap.size, 0, none⟩ = some (.slice V5 (playR gs ts tt ms).1.length c5) := (hb9.cell (p := ⟨w5.heap.size, 0, none⟩) (by go_simp)).trans (by go_simp)
  have lb2_9 : w6.heap.size < w9.heap.size := Nat.lt_of_lt_of_le (by go_simp) hb9.size
  have yb2_0_9 : w9.cell? ⟨w6.heap.size, 0, none⟩ = some (.slice G6 n n) := (hb9.cell (p := ⟨w6.heap.size, 0, none⟩) (by go_simp)).trans (by go_simp)
  have yb2_1_9 : w9.cell? ⟨w6.heap.size, 1, none⟩ = some (.slice T6 m m) := (hb9.cell (p := ⟨w6.heap.size, 1, none⟩) (by go_simp)).trans (by go_simp)
  have lb3_9 : w8.heap.size < w9.heap.size := Nat.lt_of_lt_of_le (by go_simp) hb9.size
  have yb3_0_9 : w9.cell? ⟨w8.heap.size, 0, none⟩ = some (.slice V8 (playR gs ts tt ms).1.length c8) := (hb9.cell (p := ⟨w8.heap.size, 0, none⟩) (by go_simp)).trans (by go_simp)
  clear yb2_1_8 yb2_0_8 lb2_8 yb1_0_8 lb1_8 yb0_1_8 yb0_0_8 lb0_8 kr8 kc7_8 kc6_8 kr5_8 kc4_8 kc3_8 kw_8 s9
  clear hb9
  go_wp2_with fail
  refine wp_region_ord [(0, .q), (1, .q), (2, .g), (3, .g), (4, .q)] (by kernel_rfl) (by kernel_rfl) ?_
  simp only [pick, List.filterMap_cons, List.filterMap_nil, List.getElem?_toArray, List.getElem?_cons_zero, List.getElem?_cons_succ, Option.map_some]
  repeat (first | ((with_reducible refine wpD_p (fun K hK => ?_)); go_simp; refine hK _ ?_; clear hK K) | ((with_reducible refine wpD_q (fun K hK => ?_)); go_simp; (first | refine hK _ ?_ | (go_bits; refine hK _ ?_) | (go_bits; go_simp; refine hK _ ?_)); clear hK K))
  with_reducible refine wpD_g (fun K hK => ?_)
  go_simp
  refine (toTileSet_any _ _ _ _ _ _ gs ts _ (hG.below RGl.stable bk_) (hT.below RTi.stable bk_) (by omega) (by omega) htsH.out).mono ?_
  rintro e w10 ⟨G10, T10, rfl, o10, p10, hb10⟩
  refine ⟨_, rfl, hb10, hK _ _ ?_⟩
  clear hK K
  have s10 : w9.heap.size ≤ w10.heap.size := by have := hb10.size; (try simp at this); omega
  have s10H := Lib.hid s10
  have kw_10 : Below w.heap.size w w10 := bl_tr bk_ hb10
  have kc3_10 : Below w3.heap.size w3 w10 := bl_tr bk_ hb10
  have kc4_10 : Below w4.heap.size w4 w10 := bl_tr bk_ hb10
  have kr5_10 : Below w5.heap.size w5 w10 := bl_tr bk_ hb10
  have kc6_10 : Below w6.heap.size w6 w10 := bl_tr bk_ hb10
  have kc7_10 : Below w7.heap.size w7 w10 := bl_tr bk_ hb10
  have kr8_10 : Below w8.heap.size w8 w10 := bl_tr bk_ hb10
  have lb0_10 : w.heap.size < w10.heap.size := Nat.lt_of_lt_of_le (by go_simp) hb10.size
  have yb0_0_10 : w10.cell? ⟨w.heap.size, 0, none⟩ = some (.slice G n cg) := (hb10.cell (p := ⟨w.heap.size, 0, none⟩) (by go_simp)).trans (by go_simp)
  have yb0_1_10 : w10.cell? ⟨w.heap.size, 1, none⟩ = some (.slice T m ct) := (hb10.cell (p := ⟨w.heap.size, 1, none⟩) (by go_simp)).trans (by go_simp)
  have lb1_10 : w5.heap.size < w10.heap.size := Nat.lt_of_lt_of_le (by go_simp) hb10.size
  have yb1_0_10 : w10.cell? ⟨w5.heap.size, 0, none⟩ = some (.slice V5 (playR gs ts tt ms).1.length c5) := (hb10.cell (p := ⟨w5.heap.size, 0, none⟩) (by go_simp)).trans (by go_simp)
  have lb2_10 : w6.heap.size < w10.heap.size := Nat.lt_of_lt_of_le (by go_simp) hb10.size
  have yb2_0_10 : w10.cell? ⟨w6.heap.size, 0, none⟩ = some (.slice G6 n n) := (hb10.cell (p := ⟨w6.heap.size, 0, none⟩) (by go_simp)).trans (by go_simp)
  have yb2_1_10 : w10.cell? ⟨w6.heap.size, 1, none⟩ = some (.slice T6 m m) := (hb10.cell (p := ⟨w6.heap.size, 1, none⟩) (by go_simp)).trans (by go_simp)
  have lb3_10 : w8.heap.size < w10.heap.size := Nat.lt_of_lt_of_le (by go_simp) hb10.size
  have yb3_0_10 : w10.cell? ⟨w8.heap.size, 0, none⟩ = some (.slice V8 (playR gs ts tt ms).1.length c8) := (hb10.cell (p := ⟨w8.heap.size, 0, none⟩) (by go_simp)).trans (by go_simp)
  clear yb3_0_9 lb3_9 yb2_1_9 yb2_0_9 lb2_9 yb1_0_9 lb1_9 yb0_1_9 yb0_0_9 lb0_9 kr8_9 kc7_9 kc6_9 kr5_9 kc4_9 kc3_9 kw_9 s10
  clear hb10
  have kc10 : Below w10.heap.size w10 w10 := bl_refl _
  have o10H := Lib.hid o10
  clear o10
  have p10H := Lib.hid p10
  clear p10
  with_reducible refine wpD_g (fun K hK => ?_)
  go_simp
  refine (eqTileSet_same _ _ _ _ _ _ _ _ _ _ gs ts _ (o6H.out.rd.below RGl.stable bk_) (o10H.out.rd.below RGl.stable bk_) (p6H.out.rdTi.below RTi.stable bk_) (p10H.out.rdTi.below RTi.stable bk_) (by omega) (by omega) htsH.out).mono ?_
  rintro e w11 ⟨rfl, hb11⟩
  refine ⟨_, rfl, hb11, hK _ _ ?_⟩
  clear hK K
  have s11 : w10.heap.size ≤ w11.heap.size := by have := hb11.size; (try simp at this); omega
  have s11H := Lib.hid s11
  have kw_11 : Below w.heap.size w w11 := bl_tr bk_ hb11
  have kc3_11 : Below w3.heap.size w3 w11 := bl_tr bk_ hb11
  have kc4_11 : Below w4.heap.size w4 w11 := bl_tr bk_ hb11
  have kr5_11 : Below w5.heap.size w5 w11 := bl_tr bk_ hb11
  have kc6_11 : Below w6.heap.size w6 w11 := bl_tr bk_ hb11
  have kc7_11 : Below w7.heap.size w7 w11 := bl_tr bk_ hb11
  have kr8_11 : Below w8.heap.size w8 w11 := bl_tr bk_ hb11
  have kc10_11 : Below w10.heap.size w10 w11 := bl_tr bk_ hb11
  have lb0_11 : w.heap.size < w11.heap.size := Nat.lt_of_lt_of_le (by go_simp) hb11.size
  have yb0_0_11 : w11.cell? ⟨w.heap.size, 0, none⟩ = some (.slice G n cg) := (hb11.cell (p := ⟨w.heap.size, 0, none⟩) (by go_simp)).trans (by go_simp)
  have yb0_1_11 : w11.cell? ⟨w.heap.size, 1, none⟩ = some (.slice T m ct) := (hb11.cell (p := ⟨w.heap.size, 1, none⟩) (by go_simp)).trans (by go_simp)
  have lb1_11 : w5.heap.size < w11.heap.size := Nat.lt_of_lt_of_le (by go_simp) hb11.size
  have yb1_0_11 : w11.cell? ⟨w5.heap.size, 0, none⟩ = some (.slice V5 (playR gs ts tt ms).1.length c5) := (hb11.cell (p := ⟨w5.heap.size, 0, none⟩) (by go_simp)).trans (by go_simp)
  have lb2_11 : w6.heap.size < w11.heap.size := Nat.lt_of_lt_of_le (by go_simp) hb11.size
  have yb2_0_11 : w11.cell? ⟨w6.heap.size, 0, none⟩ = some (.slice G6 n n) := (hb11.cell (p := ⟨w6.heap.size, 0, none⟩) (by go_simp)).trans (by go_simp)
  have yb2_1_11 : w11.cell? ⟨w6.heap.size, 1, none⟩ = some (.slice T6 m m) := (hb11.cell (p := ⟨w6.heap.size, 1, none⟩) (by go_simp)).trans (by go_simp)
  have lb3_11 : w8.heap.size < w11.heap.size := Nat.lt_of_lt_of_le (by go_simp) hb11.size
  have yb3_0_11 : w11.cell? ⟨w8.heap.size, 0, none⟩ = some (.slice V8 (playR gs ts tt ms).1.length c8) := (hb11.cell (p := ⟨w8.heap.size, 0, none⟩) (by go_simp)).trans (by go_simp)
  clear yb3_0_10 lb3_10 yb2_1_10 yb2_0_10 lb2_10 yb1_0_10 lb1_10 yb0_1_10 yb0_0_10 lb0_10 kc10 kr8_10 kc7_10 kc6_10 kr5_10 kc4_10 kc3_10 kw_10 s11
  clear hb11
  repeat (first | ((with_reducible refine wpD_p (fun K hK => ?_)); go_simp; refine hK _ ?_; clear hK K) | ((with_reducible refine wpD_q (fun K hK => ?_)); go_simp; (first | refine hK _ ?_ | (go_bits; refine hK _ ?_) | (go_bits; go_simp; refine hK _ ?_)); clear hK K))
  with_reducible refine wpD_nil ?_
  go_wp2_with fail
  refine (toMergeS_any _ _ _ ms _ (hF.below RMr.stable bk_) (by omega)).mono ?_
  rintro e w12 ⟨F12, rfl, o12, hb12⟩
  have s12 : w11.heap.size ≤ w12.heap.size := by have := hb12.size; (try simp at this); omega
  have s12H := Lib.hid s12
  have kw_12 : Below w.heap.size w w12 := bl_tr bk_ hb12
  have kc3_12 : Below w3.heap.size w3 w12 := bl_tr bk_ hb12
  have kc4_12 : Below w4.heap.size w4 w12 := bl_tr bk_ hb12
  have kr5_12 : Below w5.heap.size w5 w12 := bl_tr bk_ hb12
  have kc6_12 : Below w6.heap.size w6 w12 := bl_tr bk_ hb12
  have kc7_12 : Below w7.heap.size w7 w12 := bl_tr bk_ hb12
  have kr8_12 : Below w8.heap.size w8 w12 := bl_tr bk_ hb12
  have kc10_12 : Below w10.heap.size w10 w12 := bl_tr bk_ hb12
  have lb0_12 : w.heap.size < w12.heap.size := Nat.lt_of_lt_of_le (by go_simp) hb12.size
  have yb0_0_12 : w12.cell? ⟨w.heap.size, 0, none⟩ = some (.slice G n cg) := (hb12.cell (p := ⟨w.heap.size, 0, none⟩) (by go_simp)).trans (by go_simp)
  have yb0_1_12 : w12.cell? ⟨w.heap.size, 1, none⟩ = some (.slice T m ct) := (hb12.cell (p := ⟨w.heap.size, 1, none⟩) (by go_simp)).trans (by go_simp)
  have lb1_12 : w5.heap.size < w12.heap.size := Nat.lt_of_lt_of_le (by go_simp) hb12.size
  have yb1_0_12 : w12.cell? ⟨w5.heap.size, 0, none⟩ = some (.slice V5 (playR gs ts tt ms).1.length c5) := (hb12.cell (p := ⟨w5.heap.size, 0, none⟩) (by go_simp)).trans (by go_simp)
  have lb2_12 : w6.heap.size < w12.heap.size := Nat.lt_of_lt_of_le (by go_simp) hb12.size
  have yb2_0_12 : w12.cell? ⟨w6.heap.size, 0, none⟩ = some (.slice G6 n n) := (hb12.cell (p := ⟨w6.heap.size, 0, none⟩) (by go_simp)).trans (by go_simp)
  have yb2_1_12 : w12.cell? ⟨w6.heap.size, 1, none⟩ = some (.slice T6 m m) := (hb12.cell (p := ⟨w6.heap.size, 1, none⟩) (by go_simp)).trans (by go_simp)
  have lb3_12 : w8.heap.size < w12.heap.size := Nat.lt_of_lt_of_le (by go_simp) hb12.size
  have yb3_0_12 : w12.cell? ⟨w8.heap.size, 0, none⟩ = some (.slice V8 (playR gs ts tt ms).1.length c8) := (hb12.cell (p := ⟨w8.heap.size, 0, none⟩) (by go_simp)).trans (by go_simp)
  clear yb3_0_11 lb3_11 yb2_1_11 yb2_0_11 lb2_11 yb1_0_11 lb1_11 yb0_1_11 yb0_0_11 lb0_11 kc10_11 kr8_11 kc7_11 kc6_11 kr5_11 kc4_11 kc3_11 kw_11 s12
  clear hb12
  have kc12 : Below w12.heap.size w12 w12 := bl_refl _
  have o12H := Lib.hid o12
  clear o12
  go_wp2_with fail
  refine (eqMergeS_same _ _ _ _ _ ms _ (o7H.out.rd.below RMr.stable bk_) (o12H.out.rd.below RMr.stable bk_) (by omega)).mono ?_
  rintro e w13 ⟨rfl, hb13⟩
  have s13 : w12.heap.size ≤ w13.heap.size := by have := hb13.size; (try simp at this); omega
  have s13H := Lib.hid s13
  have kw_13 : Below w.heap.size w w13 := bl_tr bk_ hb13
  have kc3_13 : Below w3.heap.size w3 w13 := bl_tr bk_ hb13
  have kc4_13 : Below w4.heap.size w4 w13 := bl_tr bk_ hb13
  have kr5_13 : Below w5.heap.size w5 w13 := bl_tr bk_ hb13
  have kc6_13 : Below w6.heap.size w6 w13 := bl_tr bk_ hb13
  have kc7_13 : Below w7.heap.size w7 w13 := bl_tr bk_ hb13
  have kr8_13 : Below w8.heap.size w8 w13 := bl_tr bk_ hb13
  have kc10_13 : Below w10.heap.size w10 w13 := bl_tr bk_ hb13
  have kc12_13 : Below w12.heap.size w12 w13 := bl_tr bk_ hb13
  have lb0_13 : w.heap.size < w13.heap.size := Nat.lt_of_lt_of_le (by go_simp) hb13.size
  have yb0_0_13 : w13.cell? ⟨w.heap.size, 0, none⟩ = some (.slice G n cg) := (hb13.cell (p := ⟨w.heap.size, 0, none⟩) (by go_simp)).trans (by go_simp)
  have yb0_1_13 : w13.cell? ⟨w.heap.size, 1, none⟩ = some (.slice T m ct) := (hb13.cell (p := ⟨w.heap.size, 1, none⟩) (by go_simp)).trans (by go_simp)
  have lb1_13 : w5.heap.size < w13.heap.size := Nat.lt_of_lt_of_le (by go_simp) hb13.size
  have yb1_0_13 : w13.cell? ⟨w5.heap.size, 0, none⟩ = some (.slice V5 (playR gs ts tt ms).1.length c5) := (hb13.cell (p := ⟨w5.heap.size, 0, none⟩) (by go_simp)).trans (by go_simp)
  have lb2_13 : w6.heap.size < w13.heap.size := Nat.lt_of_lt_of_le (by go_simp) hb13.size
  have yb2_0_13 : w13.cell? ⟨w6.heap.size, 0, none⟩ = some (.slice G6 n n) := (hb13.cell (p := ⟨w6.heap.size, 0, none⟩) (by go_simp)).trans (by go_simp)
  have yb2_1_13 : w13.cell? ⟨w6.heap.size, 1, none⟩ = some (.slice T6 m m) := (hb13.cell (p := ⟨w6.heap.size, 1, none⟩) (by go_simp)).trans (by go_simp)
  have lb3_13 : w8.heap.size < w13.heap.size := Nat.lt_of_lt_of_le (by go_simp) hb13.size
  have yb3_0_13 : w13.cell? ⟨w8.heap.size, 0, none⟩ = some (.slice V8 (playR gs ts tt ms).1.length c8) := (hb13.cell (p := ⟨w8.heap.size, 0, none⟩) (by go_simp)).trans (by go_simp)
  clear yb3_0_12 lb3_12 yb2_1_12 yb2_0_12 lb2_12 yb1_0_12 lb1_12 yb0_1_12 yb0_0_12 lb0_12 kc12 kc10_12 kr8_12 kc7_12 kc6_12 kr5_12 kc4_12 kc3_12 kw_12 s13
  clear hb13
  go_wp2_with fail
  have sB0H := Lib.hid lb0_13
  have sB1H := Lib.hid lb1_13
  have sB2H := Lib.hid lb2_13
  have sB3H := Lib.hid lb3_13
  have MG6 := Lib.hid (((o6H.out.mk_).lo_ (lo' := (w5.heap.size + 1)) om_).below kc6_13 (Nat.le_refl _))
  have MT6 := Lib.hid (((p6H.out.mkTiles htsH.out).lo_ (lo' := (w5.heap.size + 1)) om_).below kc6_13 (Nat.le_refl _))
  have MF7 := Lib.hid (((o7H.out.mk_).lo_ (lo' := (w6.heap.size + 1)) om_).below kc7_13 (Nat.le_refl _))
  have OG8a := Lib.hid (ownsRow_base (base' := (w7.heap.size)) (ownsRow_below v8H.out kr8_13) om_)
  refine (markTileSet_any _ _ n _ m _ 1 (w5.heap.size + 1) w6.heap.size _ (MkRow.below MG6.out bk_ om_) (MkTiles.below MT6.out bk_ om_) om_ om_ (by omega)).mono ?_
  rintro e w14 ⟨r14, rfl, hr141, hr142, hm14⟩
  clear MT6 MG6
  have s14 : w13.heap.size ≤ w14.heap.size := by have := hm14.size; (try simp at this); omega
  have s14H := Lib.hid s14
  have kw_14 : Below w.heap.size w w14 := Below.trans bk_ (hm14.below.mono om_)
  have kc3_14 : Below w3.heap.size w3 w14 := Below.trans bk_ (hm14.below.mono om_)
  have kc4_14 : Below w4.heap.size w4 w14 := Below.trans bk_ (hm14.below.mono om_)
  have kr5_14 : Below w5.heap.size w5 w14 := Below.trans bk_ (hm14.below.mono om_)
  have lb0_14 : w.heap.size < w14.heap.size := Nat.lt_of_lt_of_le (by go_simp) hm14.size
  have yb0_0_14 : w14.cell? ⟨w.heap.size, 0, none⟩ = some (.slice G n cg) := (hm14.below.cell (p := ⟨w.heap.size, 0, none⟩) om_).trans (by go_simp)
  have yb0_1_14 : w14.cell? ⟨w.heap.size, 1, none⟩ = some (.slice T m ct) := (hm14.below.cell (p := ⟨w.heap.size, 1, none⟩) om_).trans (by go_simp)
  have lb1_14 : w5.heap.size < w14.heap.size := Nat.lt_of_lt_of_le (by go_simp) hm14.size
  have yb1_0_14 : w14.cell? ⟨w5.heap.size, 0, none⟩ = some (.slice V5 (playR gs ts tt ms).1.length c5) := (hm14.below.cell (p := ⟨w5.heap.size, 0, none⟩) om_).trans (by go_simp)
  have lb2_14 : w6.heap.size < w14.heap.size := Nat.lt_of_lt_of_le (by go_simp) hm14.size
  have yb2_0_14 : w14.cell? ⟨w6.heap.size, 0, none⟩ = some (.slice G6 n n) := (World.cell?_of_block (a := ⟨w6.heap.size, 0, none⟩) (hm14.keep (w6.heap.size) om_ (by go_simp))).trans (by go_simp)
  have yb2_1_14 : w14.cell? ⟨w6.heap.size, 1, none⟩ = some (.slice T6 m m) := (World.cell?_of_block (a := ⟨w6.heap.size, 1, none⟩) (hm14.keep (w6.heap.size) om_ (by go_simp))).trans (by go_simp)
  have lb3_14 : w8.heap.size < w14.heap.size := Nat.lt_of_lt_of_le (by go_simp) hm14.size
  have yb3_0_14 : w14.cell? ⟨w8.heap.size, 0, none⟩ = some (.slice V8 (playR gs ts tt ms).1.length c8) := (World.cell?_of_block (a := ⟨w8.heap.size, 0, none⟩) (hm14.keep (w8.heap.size) om_ (by go_simp))).trans (by go_simp)
  have MF7_14 := Lib.hid (MkRow.mk (MkRow.below (MF7.out) bk_ om_) hm14 om_ om_)
  have OG8a_14 := Lib.hid (ownsRow_mk (ownsRow_below OG8a.out bk_) hm14 om_)
  clear OG8a MF7 yb3_0_13 lb3_13 yb2_1_13 yb2_0_13 lb2_13 yb1_0_13 lb1_13 yb0_1_13 yb0_0_13 lb0_13 kc12_13 kc10_13 kr8_13 kc7_13 kc6_13 kr5_13 kc4_13 kc3_13 kw_13 s14
  clear hm14
  go_wp2_with fail
  refine (markMergeS_any2 _ nf _ r14 (w6.heap.size + 1) w7.heap.size _ (MkRow.below MF7_14.out bk_ om_) om_ om_ (by omega)).mono ?_
  rintro e w15 ⟨r15, rfl, hr151, hr152, hm15⟩
  clear MF7_14
  have s15 : w14.heap.size ≤ w15.heap.size := by have := hm15.size; (try simp at this); omega
  have s15H := Lib.hid s15
  have kw_15 : Below w.heap.size w w15 := Below.trans bk_ (hm15.below.mono om_)
  have kc3_15 : Below w3.heap.size w3 w15 := Below.trans bk_ (hm15.below.mono om_)
  have kc4_15 : Below w4.heap.size w4 w15 := Below.trans bk_ (hm15.below.mono om_)
  have kr5_15 : Below w5.heap.size w5 w15 := Below.trans bk_ (hm15.below.mono om_)
  have lb0_15 : w.heap.size < w15.heap.size := Nat.lt_of_lt_of_le (by go_simp) hm15.size
  have yb0_0_15 : w15.cell? ⟨w.heap.size, 0, none⟩ = some (.slice G n cg) := (hm15.below.cell (p := ⟨w.heap.size, 0, none⟩) om_).trans (by go_simp)
  have yb0_1_15 : w15.cell? ⟨w.heap.size, 1, none⟩ = some (.slice T m ct) := (hm15.below.cell (p := ⟨w.heap.size, 1, none⟩) om_).trans (by go_simp)
  have lb1_15 : w5.heap.size < w15.heap.size := Nat.lt_of_lt_of_le (by go_simp) hm15.size
  have yb1_0_15 : w15.cell? ⟨w5.heap.size, 0, none⟩ = some (.slice V5 (playR gs ts tt ms).1.length c5) := (hm15.below.cell (p := ⟨w5.heap.size, 0, none⟩) om_).trans (by go_simp)
  have lb2_15 : w6.heap.size < w15.heap.size := Nat.lt_of_lt_of_le (by go_simp) hm15.size
  have yb2_0_15 : w15.cell? ⟨w6.heap.size, 0, none⟩ = some (.slice G6 n n) := (hm15.below.cell (p := ⟨w6.heap.size, 0, none⟩) om_).trans (by go_simp)
  have yb2_1_15 : w15.cell? ⟨w6.heap.size, 1, none⟩ = some (.slice T6 m m) := (hm15.below.cell (p := ⟨w6.heap.size, 1, none⟩) om_).trans (by go_simp)
  have lb3_15 : w8.heap.size < w15.heap.size := Nat.lt_of_lt_of_le (by go_simp) hm15.size
  have yb3_0_15 : w15.cell? ⟨w8.heap.size, 0, none⟩ = some (.slice V8 (playR gs ts tt ms).1.length c8) := (World.cell?_of_block (a := ⟨w8.heap.size, 0, none⟩) (hm15.keep (w8.heap.size) om_ (by go_simp))).trans (by go_simp)
  have OG8a_15 := Lib.hid (ownsRow_mk (ownsRow_below OG8a_14.out bk_) hm15 om_)
  clear OG8a_14 yb3_0_14 lb3_14 yb2_1_14 yb2_0_14 lb2_14 yb1_0_14 lb1_14 yb0_1_14 yb0_0_14 lb0_14 kr5_14 kc4_14 kc3_14 kw_14 s15
  clear hm15
  go_wp2_with fail
  refine (eqAssembly_same _ _ _ _ _ (playR gs ts tt ms).1 _ ((rdPl OG8a_15.out).below RPl.stable bk_) ((rdPl v5H.out).below RPl.stable bk_) hRl.out).mono ?_
  rintro e w16 ⟨rfl, hb16⟩
  have s16 : w15.heap.size ≤ w16.heap.size := by have := hb16.size; (try simp at this); omega
  have s16H := Lib.hid s16
  have kw_16 : Below w.heap.size w w16 := bl_tr bk_ hb16
  have kc3_16 : Below w3.heap.size w3 w16 := bl_tr bk_ hb16
  have kc4_16 : Below w4.heap.size w4 w16 := bl_tr bk_ hb16
  have kr5_16 : Below w5.heap.size w5 w16 := bl_tr bk_ hb16
  have lb0_16 : w.heap.size < w16.heap.size := Nat.lt_of_lt_of_le (by go_simp) hb16.size
  have yb0_0_16 : w16.cell? ⟨w.heap.size, 0, none⟩ = some (.slice G n cg) := (hb16.cell (p := ⟨w.heap.size, 0, none⟩) (by go_simp)).trans (by go_simp)
  have yb0_1_16 : w16.cell? ⟨w.heap.size, 1, none⟩ = some (.slice T m ct) := (hb16.cell (p := ⟨w.heap.size, 1, none⟩) (by go_simp)).trans (by go_simp)
  have lb1_16 : w5.heap.size < w16.heap.size := Nat.lt_of_lt_of_le (by go_simp) hb16.size
  have yb1_0_16 : w16.cell? ⟨w5.heap.size, 0, none⟩ = some (.slice V5 (playR gs ts tt ms).1.length c5) := (hb16.cell (p := ⟨w5.heap.size, 0, none⟩) (by go_simp)).trans (by go_simp)
  have lb2_16 : w6.heap.size < w16.heap.size := Nat.lt_of_lt_of_le (by go_simp) hb16.size
  have yb2_0_16 : w16.cell? ⟨w6.heap.size, 0, none⟩ = some (.slice G6 n n) := (hb16.cell (p := ⟨w6.heap.size, 0, none⟩) (by go_simp)).trans (by go_simp)
  have yb2_1_16 : w16.cell? ⟨w6.heap.size, 1, none⟩ = some (.slice T6 m m) := (hb16.cell (p := ⟨w6.heap.size, 1, none⟩) (by go_simp)).trans (by go_simp)
  have lb3_16 : w8.heap.size < w16.heap.size := Nat.lt_of_lt_of_le (by go_simp) hb16.size
  have yb3_0_16 : w16.cell? ⟨w8.heap.size, 0, none⟩ = some (.slice V8 (playR gs ts tt ms).1.length c8) := (hb16.cell (p := ⟨w8.heap.size, 0, none⟩) (by go_simp)).trans (by go_simp)
  have OG8a_16 := Lib.hid (ownsRow_below (ownsRow_below OG8a_15.out bk_) hb16)
  clear OG8a_15 yb3_0_15 lb3_15 yb2_1_15 yb2_0_15 lb2_15 yb1_0_15 lb1_15 yb0_1_15 yb0_0_15 lb0_15 kr5_15 kc4_15 kc3_15 kw_15 s16
  clear hb16
  go_wp2_with fail
  refine (markAssembly_c _ _ _ 1 (w7.heap.size) _ _ (mkRow_hi (ownsRow_below OG8a_16.out bk_) hv8H.out) om_ om_ (by have := hRl.out; omega)).mono ?_
  rintro e w17 ⟨rfl, hm17, mc17⟩
  clear OG8a_16
  have s17 : w16.heap.size ≤ w17.heap.size := by have := hm17.size; (try simp at this); omega
  have s17H := Lib.hid s17
  have kw_17 : Below w.heap.size w w17 := Below.trans bk_ (hm17.below.mono om_)
  have kc3_17 : Below w3.heap.size w3 w17 := Below.trans bk_ (hm17.below.mono om_)
  have kc4_17 : Below w4.heap.size w4 w17 := Below.trans bk_ (hm17.below.mono om_)
  have kr5_17 : Below w5.heap.size w5 w17 := Below.trans bk_ (hm17.below.mono om_)
  have lb0_17 : w.heap.size < w17.heap.size := Nat.lt_of_lt_of_le (by go_simp) hm17.size
  have yb0_0_17 : w17.cell? ⟨w.heap.size, 0, none⟩ = some (.slice G n cg) := (hm17.below.cell (p := ⟨w.heap.size, 0, none⟩) om_).trans (by go_simp)
  have yb0_1_17 : w17.cell? ⟨w.heap.size, 1, none⟩ = some (.slice T m ct) := (hm17.below.cell (p := ⟨w.heap.size, 1, none⟩) om_).trans (by go_simp)
  have lb1_17 : w5.heap.size < w17.heap.size := Nat.lt_of_lt_of_le (by go_simp) hm17.size
  have yb1_0_17 : w17.cell? ⟨w5.heap.size, 0, none⟩ = some (.slice V5 (playR gs ts tt ms).1.length c5) := (hm17.below.cell (p := ⟨w5.heap.size, 0, none⟩) om_).trans (by go_simp)
  have lb2_17 : w6.heap.size < w17.heap.size := Nat.lt_of_lt_of_le (by go_simp) hm17.size
  have yb2_0_17 : w17.cell? ⟨w6.heap.size, 0, none⟩ = some (.slice G6 n n) := (hm17.below.cell (p := ⟨w6.heap.size, 0, none⟩) om_).trans (by go_simp)
  have yb2_1_17 : w17.cell? ⟨w6.heap.size, 1, none⟩ = some (.slice T6 m m) := (hm17.below.cell (p := ⟨w6.heap.size, 1, none⟩) om_).trans (by go_simp)
  have lb3_17 : w8.heap.size < w17.heap.size := Nat.lt_of_lt_of_le (by go_simp) hm17.size
  have yb3_0_17 : w17.cell? ⟨w8.heap.size, 0, none⟩ = some (.slice V8 (playR gs ts tt ms).1.length c8) := (World.cell?_of_block (a := ⟨w8.heap.size, 0, none⟩) (hm17.keep (w8.heap.size) om_ (by go_simp))).trans (by go_simp)
  clear yb3_0_16 lb3_16 yb2_1_16 yb2_0_16 lb2_16 yb1_0_16 lb1_16 yb0_1_16 yb0_0_16 lb0_16 kr5_16 kc4_16 kc3_16 kw_16 s17
  have Mc17 := Lib.hid mc17
  clear mc17 hm17
  go_wp2_with fail
  refine (heldAssembly_any _ _ _ 1 _ _ _ (Marked.below Mc17.out bk_ om_) om_ (by have := hRl.out; omega)).mono ?_
  rintro e w18 ⟨rfl, hb18⟩
  have s18 : w17.heap.size ≤ w18.heap.size := by have := hb18.size; (try simp at this); omega
  have s18H := Lib.hid s18
  have kw_18 : Below w.heap.size w w18 := bl_tr bk_ hb18
  have kc3_18 : Below w3.heap.size w3 w18 := bl_tr bk_ hb18
  have kc4_18 : Below w4.heap.size w4 w18 := bl_tr bk_ hb18
  have kr5_18 : Below w5.heap.size w5 w18 := bl_tr bk_ hb18
  have lb0_18 : w.heap.size < w18.heap.size := Nat.lt_of_lt_of_le (by go_simp) hb18.size
  have yb0_0_18 : w18.cell? ⟨w.heap.size, 0, none⟩ = some (.slice G n cg) := (hb18.cell (p := ⟨w.heap.size, 0, none⟩) (by go_simp)).trans (by go_simp)
  have yb0_1_18 : w18.cell? ⟨w.heap.size, 1, none⟩ = some (.slice T m ct) := (hb18.cell (p := ⟨w.heap.size, 1, none⟩) (by go_simp)).trans (by go_simp)
  have lb1_18 : w5.heap.size < w18.heap.size := Nat.lt_of_lt_of_le (by go_simp) hb18.size
  have yb1_0_18 : w18.cell? ⟨w5.heap.size, 0, none⟩ = some (.slice V5 (playR gs ts tt ms).1.length c5) := (hb18.cell (p := ⟨w5.heap.size, 0, none⟩) (by go_simp)).trans (by go_simp)
  have lb2_18 : w6.heap.size < w18.heap.size := Nat.lt_of_lt_of_le (by go_simp) hb18.size
  have yb2_0_18 : w18.cell? ⟨w6.heap.size, 0, none⟩ = some (.slice G6 n n) := (hb18.cell (p := ⟨w6.heap.size, 0, none⟩) (by go_simp)).trans (by go_simp)
  have yb2_1_18 : w18.cell? ⟨w6.heap.size, 1, none⟩ = some (.slice T6 m m) := (hb18.cell (p := ⟨w6.heap.size, 1, none⟩) (by go_simp)).trans (by go_simp)
  have lb3_18 : w8.heap.size < w18.heap.size := Nat.lt_of_lt_of_le (by go_simp) hb18.size
  have yb3_0_18 : w18.cell? ⟨w8.heap.size, 0, none⟩ = some (.slice V8 (playR gs ts tt ms).1.length c8) := (hb18.cell (p := ⟨w8.heap.size, 0, none⟩) (by go_simp)).trans (by go_simp)
  have Mc17_18 := Lib.hid (Marked.below (Marked.below Mc17.out bk_ om_) hb18 om_)
  clear Mc17 yb3_0_17 lb3_17 yb2_1_17 yb2_0_17 lb2_17 yb1_0_17 lb1_17 yb0_1_17 yb0_0_17 lb0_17 kr5_17 kc4_17 kc3_17 kw_17 s18
  clear hb18
  go_wp2_with fail
  refine (toTileSet_any _ _ _ _ _ _ gs ts _ (hG.below RGl.stable bk_) (hT.below RTi.stable bk_) (by omega) (by omega) htsH.out).mono ?_
  rintro e w19 ⟨G19, T19, rfl, o19, p19, hb19⟩
  have s19 : w18.heap.size ≤ w19.heap.size := by have := hb19.size; (try simp at this); omega
  have s19H := Lib.hid s19
  have kw_19 : Below w.heap.size w w19 := bl_tr bk_ hb19
  have kc3_19 : Below w3.heap.size w3 w19 := bl_tr bk_ hb19
  have kc4_19 : Below w4.heap.size w4 w19 := bl_tr bk_ hb19
  have kr5_19 : Below w5.heap.size w5 w19 := bl_tr bk_ hb19
  have lb0_19 : w.heap.size < w19.heap.size := Nat.lt_of_lt_of_le (by go_simp) hb19.size
  have yb0_0_19 : w19.cell? ⟨w.heap.size, 0, none⟩ = some (.slice G n cg) := (hb19.cell (p := ⟨w.heap.size, 0, none⟩) (by go_simp)).trans (by go_simp)
  have yb0_1_19 : w19.cell? ⟨w.heap.size, 1, none⟩ = some (.slice T m ct) := (hb19.cell (p := ⟨w.heap.size, 1, none⟩) (by go_simp)).trans (by go_simp)
  have lb1_19 : w5.heap.size < w19.heap.size := Nat.lt_of_lt_of_le (by go_simp) hb19.size
  have yb1_0_19 : w19.cell? ⟨w5.heap.size, 0, none⟩ = some (.slice V5 (playR gs ts tt ms).1.length c5) := (hb19.cell (p := ⟨w5.heap.size, 0, none⟩) (by go_simp)).trans (by go_simp)
  have lb2_19 : w6.heap.size < w19.heap.size := Nat.lt_of_lt_of_le (by go_simp) hb19.size
  have yb2_0_19 : w19.cell? ⟨w6.heap.size, 0, none⟩ = some (.slice G6 n n) := (hb19.cell (p := ⟨w6.heap.size, 0, none⟩) (by go_simp)).trans (by go_simp)
  have yb2_1_19 : w19.cell? ⟨w6.heap.size, 1, none⟩ = some (.slice T6 m m) := (hb19.cell (p := ⟨w6.heap.size, 1, none⟩) (by go_simp)).trans (by go_simp)
  have lb3_19 : w8.heap.size < w19.heap.size := Nat.lt_of_lt_of_le (by go_simp) hb19.size
  have yb3_0_19 : w19.cell? ⟨w8.heap.size, 0, none⟩ = some (.slice V8 (playR gs ts tt ms).1.length c8) := (hb19.cell (p := ⟨w8.heap.size, 0, none⟩) (by go_simp)).trans (by go_simp)
  have Mc17_19 := Lib.hid (Marked.below (Marked.below Mc17_18.out bk_ om_) hb19 om_)
  clear Mc17_18 yb3_0_18 lb3_18 yb2_1_18 yb2_0_18 lb2_18 yb1_0_18 lb1_18 yb0_1_18 yb0_0_18 lb0_18 kr5_18 kc4_18 kc3_18 kw_18 s19
  clear hb19
  have kc19 : Below w19.heap.size w19 w19 := bl_refl _
  have o19H := Lib.hid o19
  clear o19
  have p19H := Lib.hid p19
  clear p19
  go_wp2_with fail
  refine (toMergeS_any _ _ _ ms _ (hF.below RMr.stable bk_) (by omega)).mono ?_
  rintro e w20 ⟨F20, rfl, o20, hb20⟩
  have s20 : w19.heap.size ≤ w20.heap.size := by have := hb20.size; (try simp at this); omega
  have s20H := Lib.hid s20
  have kw_20 : Below w.heap.size w w20 := bl_tr bk_ hb20
  have kc3_20 : Below w3.heap.size w3 w20 := bl_tr bk_ hb20
  have kc4_20 : Below w4.heap.size w4 w20 := bl_tr bk_ hb20
  have kr5_20 : Below w5.heap.size w5 w20 := bl_tr bk_ hb20
  have kc19_20 : Below w19.heap.size w19 w20 := bl_tr bk_ hb20
  have lb0_20 : w.heap.size < w20.heap.size := Nat.lt_of_lt_of_le (by go_simp) hb20.size
  have yb0_0_20 : w20.cell? ⟨w.heap.size, 0, none⟩ = some (.slice G n cg) := (hb20.cell (p := ⟨w.heap.size, 0, none⟩) (by go_simp)).trans (by go_simp)
  have yb0_1_20 : w20.cell? ⟨w.heap.size, 1, none⟩ = some (.slice T m ct) := (hb20.cell (p := ⟨w.heap.size, 1, none⟩) (by go_simp)).trans (by go_simp)
  have lb1_20 : w5.heap.size < w20.heap.size := Nat.lt_of_lt_of_le (by go_simp) hb20.size
  have yb1_0_20 : w20.cell? ⟨w5.heap.size, 0, none⟩ = some (.slice V5 (playR gs ts tt ms).1.length c5) := (hb20.cell (p := ⟨w5.heap.size, 0, none⟩) (by go_simp)).trans (by go_simp)
  have lb2_20 : w6.heap.size < w20.heap.size := Nat.lt_of_lt_of_le (by go_simp) hb20.size
  have yb2_0_20 : w20.cell? ⟨w6.heap.size, 0, none⟩ = some (.slice G6 n n) := (hb20.cell (p := ⟨w6.heap.size, 0, none⟩) (by go_simp)).trans (by go_simp)
  have yb2_1_20 : w20.cell? ⟨w6.heap.size, 1, none⟩ = some (.slice T6 m m) := (hb20.cell (p := ⟨w6.heap.size, 1, none⟩) (by go_simp)).trans (by go_simp)
  have lb3_20 : w8.heap.size < w20.heap.size := Nat.lt_of_lt_of_le (by go_simp) hb20.size
  have yb3_0_20 : w20.cell? ⟨w8.heap.size, 0, none⟩ = some (.slice V8 (playR gs ts tt ms).1.length c8) := (hb20.cell (p := ⟨w8.heap.size, 0, none⟩) (by go_simp)).trans (by go_simp)
  have Mc17_20 := Lib.hid (Marked.below (Marked.below Mc17_19.out bk_ om_) hb20 om_)
  clear Mc17_19 yb3_0_19 lb3_19 yb2_1_19 yb2_0_19 lb2_19 yb1_0_19 lb1_19 yb0_1_19 yb0_0_19 lb0_19 kc19 kr5_19 kc4_19 kc3_19 kw_19 s20
  clear hb20
  have kc20 : Below w20.heap.size w20 w20 := bl_refl _
  have o20H := Lib.hid o20
  clear o20
  go_wp2_with fail
  refine (PlayMerges_any _ _ _ _ _ _ _ _ _ gs ts tt ms _ ⟨o19H.out.rd.below RGl.stable bk_, p19H.out.rdTi.below RTi.stable bk_, by omega, by omega, hgk.out, htk.out⟩ (o20H.out.rd.below RMr.stable bk_) (by omega)).mono ?_
  rintro e w21 ⟨V21, c21, rfl, v21, hb21⟩
  have s21 : w20.heap.size ≤ w21.heap.size := by have := hb21.size; (try simp at this); omega
  have s21H := Lib.hid s21
  have kw_21 : Below w.heap.size w w21 := bl_tr bk_ hb21
  have kc3_21 : Below w3.heap.size w3 w21 := bl_tr bk_ hb21
  have kc4_21 : Below w4.heap.size w4 w21 := bl_tr bk_ hb21
  have kr5_21 : Below w5.heap.size w5 w21 := bl_tr bk_ hb21
  have kc19_21 : Below w19.heap.size w19 w21 := bl_tr bk_ hb21
  have kc20_21 : Below w20.heap.size w20 w21 := bl_tr bk_ hb21
  have lb0_21 : w.heap.size < w21.heap.size := Nat.lt_of_lt_of_le (by go_simp) hb21.size
  have yb0_0_21 : w21.cell? ⟨w.heap.size, 0, none⟩ = some (.slice G n cg) := (hb21.cell (p := ⟨w.heap.size, 0, none⟩) (by go_simp)).trans (by go_simp)
  have yb0_1_21 : w21.cell? ⟨w.heap.size, 1, none⟩ = some (.slice T m ct) := (hb21.cell (p := ⟨w.heap.size, 1, none⟩) (by go_simp)).trans (by go_simp)
  have lb1_21 : w5.heap.size < w21.heap.size := Nat.lt_of_lt_of_le (by go_simp) hb21.size
  have yb1_0_21 : w21.cell? ⟨w5.heap.size, 0, none⟩ = some (.slice V5 (playR gs ts tt ms).1.length c5) := (hb21.cell (p := ⟨w5.heap.size, 0, none⟩) (by go_simp)).trans (by go_simp)
  have lb2_21 : w6.heap.size < w21.heap.size := Nat.lt_of_lt_of_le (by go_simp) hb21.size
  have yb2_0_21 : w21.cell? ⟨w6.heap.size, 0, none⟩ = some (.slice G6 n n) := (hb21.cell (p := ⟨w6.heap.size, 0, none⟩) (by go_simp)).trans (by go_simp)
  have yb2_1_21 : w21.cell? ⟨w6.heap.size, 1, none⟩ = some (.slice T6 m m) := (hb21.cell (p := ⟨w6.heap.size, 1, none⟩) (by go_simp)).trans (by go_simp)
  have lb3_21 : w8.heap.size < w21.heap.size := Nat.lt_of_lt_of_le (by go_simp) hb21.size
  have yb3_0_21 : w21.cell? ⟨w8.heap.size, 0, none⟩ = some (.slice V8 (playR gs ts tt ms).1.length c8) := (hb21.cell (p := ⟨w8.heap.size, 0, none⟩) (by go_simp)).trans (by go_simp)
  have Mc17_21 := Lib.hid (Marked.below (Marked.below Mc17_20.out bk_ om_) hb21 om_)
  clear Mc17_20 yb3_0_20 lb3_20 yb2_1_20 yb2_0_20 lb2_20 yb1_0_20 lb1_20 yb0_1_20 yb0_0_20 lb0_20 kc20 kc19_20 kr5_20 kc4_20 kc3_20 kw_20 s21
  clear hb21
  have kr21 : Below w21.heap.size w21 w21 := bl_refl _
  have hv21 : ∀ g, (.slice V21 (playR gs ts tt ms).1.length c21 : Value).ownBlock = some g → g < w21.heap.size := fun g e => (v21.lt g e).2
  have hv21H := Lib.hid hv21
  clear hv21
  have v21H := Lib.hid v21
  clear v21
  go_wp2_with fail
  refine (eqAssembly_same _ _ _ _ _ (playR gs ts tt ms).1 _ ((rdPl v21H.out).below RPl.stable bk_) ((rdPl v5H.out).below RPl.stable bk_) hRl.out).mono ?_
  rintro e w22 ⟨rfl, hb22⟩
  have s22 : w21.heap.size + 1 ≤ w22.heap.size := by have := hb22.size; (try simp at this); omega
  have s22H := Lib.hid s22
  have kw_22 : Below w.heap.size w w22 := bl_tr bk_ hb22
  have kc3_22 : Below w3.heap.size w3 w22 := bl_tr bk_ hb22
  have kc4_22 : Below w4.heap.size w4 w22 := bl_tr bk_ hb22
  have kr5_22 : Below w5.heap.size w5 w22 := bl_tr bk_ hb22
  have kc19_22 : Below w19.heap.size w19 w22 := bl_tr bk_ hb22
  have kc20_22 : Below w20.heap.size w20 w22 := bl_tr bk_ hb22
  have kr21_22 : Below w21.heap.size w21 w22 := bl_tr bk_ hb22
  have lb0_22 : w.heap.size < w22.heap.size := Nat.lt_of_lt_of_le (by go_simp) hb22.size
  have yb0_0_22 : w22.cell? ⟨w.heap.size, 0, none⟩ = some (.slice G n cg) := (hb22.cell (p := ⟨w.heap.size, 0, none⟩) (by go_simp)).trans (by go_simp)
  have yb0_1_22 : w22.cell? ⟨w.heap.size, 1, none⟩ = some (.slice T m ct) := (hb22.cell (p := ⟨w.heap.size, 1, none⟩) (by go_simp)).trans (by go_simp)
  have lb1_22 : w5.heap.size < w22.heap.size := Nat.lt_of_lt_of_le (by go_simp) hb22.size
  have yb1_0_22 : w22.cell? ⟨w5.heap.size, 0, none⟩ = some (.slice V5 (playR gs ts tt ms).1.length c5) := (hb22.cell (p := ⟨w5.heap.size, 0, none⟩) (by go_simp)).trans (by go_simp)
  have lb2_22 : w6.heap.size < w22.heap.size := Nat.lt_of_lt_of_le (by go_simp) hb22.size
  have yb2_0_22 : w22.cell? ⟨w6.heap.size, 0, none⟩ = some (.slice G6 n n) := (hb22.cell (p := ⟨w6.heap.size, 0, none⟩) (by go_simp)).trans (by go_simp)
  have yb2_1_22 : w22.cell? ⟨w6.heap.size, 1, none⟩ = some (.slice T6 m m) := (hb22.cell (p := ⟨w6.heap.size, 1, none⟩) (by go_simp)).trans (by go_simp)
  have lb3_22 : w8.heap.size < w22.heap.size := Nat.lt_of_lt_of_le (by go_simp) hb22.size
  have yb3_0_22 : w22.cell? ⟨w8.heap.size, 0, none⟩ = some (.slice V8 (playR gs ts tt ms).1.length c8) := (hb22.cell (p := ⟨w8.heap.size, 0, none⟩) (by go_simp)).trans (by go_simp)
  have lb4_22 : w21.heap.size < w22.heap.size := Nat.lt_of_lt_of_le (by go_simp) hb22.size
  have yb4_0_22 : w22.cell? ⟨w21.heap.size, 0, none⟩ = some (.slice V21 (playR gs ts tt ms).1.length c21) := (hb22.cell (p := ⟨w21.heap.size, 0, none⟩) (by go_simp)).trans (by go_simp)
  have Mc17_22 := Lib.hid (Marked.below (Marked.below Mc17_21.out bk_ om_) hb22 om_)
  clear Mc17_21 yb3_0_21 lb3_21 yb2_1_21 yb2_0_21 lb2_21 yb1_0_21 lb1_21 yb0_1_21 yb0_0_21 lb0_21 kr21 kc20_21 kc19_21 kr5_21 kc4_21 kc3_21 kw_21 s22
  clear hb22
  go_wp2_with fail
  refine (heldAssembly_any _ _ _ 1 _ _ _ (Marked.below Mc17_22.out bk_ om_) om_ (by have := hRl.out; omega)).mono ?_
  rintro e w23 ⟨rfl, hb23⟩
  have s23 : w22.heap.size ≤ w23.heap.size := by have := hb23.size; (try simp at this); omega
  have s23H := Lib.hid s23
  have kw_23 : Below w.heap.size w w23 := bl_tr bk_ hb23
  have kc3_23 : Below w3.heap.size w3 w23 := bl_tr bk_ hb23
  have kc4_23 : Below w4.heap.size w4 w23 := bl_tr bk_ hb23
  have kr5_23 : Below w5.heap.size w5 w23 := bl_tr bk_ hb23
  have kc19_23 : Below w19.heap.size w19 w23 := bl_tr bk_ hb23
  have kc20_23 : Below w20.heap.size w20 w23 := bl_tr bk_ hb23
  have kr21_23 : Below w21.heap.size w21 w23 := bl_tr bk_ hb23
  have lb0_23 : w.heap.size < w23.heap.size := Nat.lt_of_lt_of_le (by go_simp) hb23.size
  have yb0_0_23 : w23.cell? ⟨w.heap.size, 0, none⟩ = some (.slice G n cg) := (hb23.cell (p := ⟨w.heap.size, 0, none⟩) (by go_simp)).trans (by go_simp)
  have yb0_1_23 : w23.cell? ⟨w.heap.size, 1, none⟩ = some (.slice T m ct) := (hb23.cell (p := ⟨w.heap.size, 1, none⟩) (by go_simp)).trans (by go_simp)
  have lb1_23 : w5.heap.size < w23.heap.size := Nat.lt_of_lt_of_le (by go_simp) hb23.size
  have yb1_0_23 : w23.cell? ⟨w5.heap.size, 0, none⟩ = some (.slice V5 (playR gs ts tt ms).1.length c5) := (hb23.cell (p := ⟨w5.heap.size, 0, none⟩) (by go_simp)).trans (by go_simp)
  have lb2_23 : w6.heap.size < w23.heap.size := Nat.lt_of_lt_of_le (by go_simp) hb23.size
  have yb2_0_23 : w23.cell? ⟨w6.heap.size, 0, none⟩ = some (.slice G6 n n) := (hb23.cell (p := ⟨w6.heap.size, 0, none⟩) (by go_simp)).trans (by go_simp)
  have yb2_1_23 : w23.cell? ⟨w6.heap.size, 1, none⟩ = some (.slice T6 m m) := (hb23.cell (p := ⟨w6.heap.size, 1, none⟩) (by go_simp)).trans (by go_simp)
  have lb3_23 : w8.heap.size < w23.heap.size := Nat.lt_of_lt_of_le (by go_simp) hb23.size
  have yb3_0_23 : w23.cell? ⟨w8.heap.size, 0, none⟩ = some (.slice V8 (playR gs ts tt ms).1.length c8) := (hb23.cell (p := ⟨w8.heap.size, 0, none⟩) (by go_simp)).trans (by go_simp)
  have lb4_23 : w21.heap.size < w23.heap.size := Nat.lt_of_lt_of_le (by go_simp) hb23.size
  have yb4_0_23 : w23.cell? ⟨w21.heap.size, 0, none⟩ = some (.slice V21 (playR gs ts tt ms).1.length c21) := (hb23.cell (p := ⟨w21.heap.size, 0, none⟩) (by go_simp)).trans (by go_simp)
  have Mc17_23 := Lib.hid (Marked.below (Marked.below Mc17_22.out bk_ om_) hb23 om_)
  clear Mc17_22 yb4_0_22 lb4_22 yb3_0_22 lb3_22 yb2_1_22 yb2_0_22 lb2_22 yb1_0_22 lb1_22 yb0_1_22 yb0_0_22 lb0_22 kr21_22 kc20_22 kc19_22 kr5_22 kc4_22 kc3_22 kw_22 s23
  clear hb23
  go_wp2_with fail
  go_ret
  exact ⟨rfl, bk_⟩
end Go.Proofs.YtpdpkanlmhigfaaGreat
