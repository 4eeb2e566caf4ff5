/- Walk: the law FnExactJoinStrength. -/
import Derived.Test.YtfabgnnpgepcoaaW36
import Derived.Test.YtfabgnnpgepcoaaHEq
import Derived.Test.YtfabgnnpgepcoaaHEq2
import Derived.Test.YtfabgnnpgepcoaaHSz
import Derived.Test.YtfabgnnpgepcoaaHMk5
import Derived.Test.YtfabgnnpgepcoaaXBase
namespace Go.Proofs.Ytfabgnnpgepcoaa
open Go.RowKit
set_option linter.unusedSimpArgs false
set_option linter.unusedVariables false
attribute [local go_sem] BelowBy.cell BelowBy.cell_drew stillUpon givesUpon BelowBy.cell_drew2 BelowBy.cell_drew3

set_option maxRecDepth 100000 in
set_option maxHeartbeats 4000000 in
theorem FnExactJoinStrength_any (G : Option Addr) (n cg : Nat) (gs : List Gl) (T : Option Addr) (m ct : Nat) (ts : List Ti) (A : Option Addr) (q ca : Nat) (xs : List Pl) (C : Option Addr) (nb cb : Nat) (ys : List Pl) (dx dy : Int) (w : World) (hG : RdSl 2 RGl w G n gs) (hT : RdSl 2 RTi w T m ts) (hln : n ≤ 9223372036854775807) (hlm : m ≤ 9223372036854775807) (hgn : ∀ e ∈ gs, e.name.size ≤ 9223372036854775807) (htn : ∀ e ∈ ts, e.name.size ≤ 9223372036854775807 ∧ e.sides.length ≤ 9223372036854775807) (hA : RdSl 3 RPl w A q xs) (hlq : q ≤ 9223372036854775807) (hC : RdSl 3 RPl w C nb ys) (hlnb : nb ≤ 9223372036854775807) (hdx : -9223372036854775808 ≤ dx ∧ dx ≤ 9223372036854775807) (hdy : -9223372036854775808 ≤ dy ∧ dy ≤ 9223372036854775807) :
    Calls Try.prog 4 #[.agg #[.slice G n cg, .slice T m ct], .agg #[.slice A q ca], .agg #[.slice C nb cb], .agg #[.int .i64 dx, .int .i64 dy]] w fun e w' => e = .returned (.bool true) ∧ Below w.heap.size w w' := by
  have hgnH := Lib.hid hgn
  have htnH := Lib.hid htn
  have hgk := Lib.hid (fun (k : Nat) (e : Gl) (h : gs[k]? = some e) => hgn e (List.mem_of_getElem? h))
  have htk := Lib.hid (fun (k : Nat) (e : Ti) (h : ts[k]? = some e) => htn e (List.mem_of_getElem? h))
  clear hgn htn
  go_enter Try.func4, Try.ntmps4
  have kw := bl_refl w
  go_wp2_with fail
  refine (szTileSet_any _ _ _ _ _ _ gs ts _ _ (hG.below RGl.stable (by repeat (first | with_reducible assumption | with_reducible exact bl_refl _ | with_reducible refine bl_al ?_ _ | with_reducible refine bl_dr ?_))) (hT.below RTi.stable (by repeat (first | with_reducible assumption | with_reducible exact bl_refl _ | with_reducible refine bl_al ?_ _ | with_reducible refine bl_dr ?_))) (by omega) (by omega) hln hlm hgnH.out htnH.out).mono ?_
  rintro e w1 ⟨r1, rfl, (rfl | ⟨hr10, hr11, ⟨hzn, hx1⟩, hzm, hx2⟩), hb1⟩
  · go_wp2
    go_ret
    exact ⟨rfl, bl_tr (by repeat (first | with_reducible assumption | with_reducible exact bl_refl _ | with_reducible refine bl_al ?_ _ | with_reducible refine bl_dr ?_)) hb1⟩
  have htsH := Lib.hid (show ∀ e ∈ ts, e.sides.length ≤ 1073741824 from fun e he => by have := (hx2 e he).2; omega)
  clear hx1 hx2
  have s1 : w.heap.size + 4 ≤ w1.heap.size := by have := hb1.size; (try simp at this); omega
  have s1H := Lib.hid s1
  have kw_1 : Below w.heap.size w w1 := bl_tr (by repeat (first | with_reducible assumption | with_reducible exact bl_refl _ | with_reducible refine bl_al ?_ _ | with_reducible refine bl_dr ?_)) hb1
  have lb0_1 : w.heap.size < w1.heap.size := Nat.lt_of_lt_of_le (by go_simp) hb1.size
  have yb0_0_1 : w1.cell? ⟨w.heap.size, 0, none⟩ = some (.slice G n cg) := (hb1.cell (p := ⟨w.heap.size, 0, none⟩) (by go_simp)).trans (by go_simp)
  have yb0_1_1 : w1.cell? ⟨w.heap.size, 1, none⟩ = some (.slice T m ct) := (hb1.cell (p := ⟨w.heap.size, 1, none⟩) (by go_simp)).trans (by go_simp)
  have lb1_1 : w.heap.size + 1 < w1.heap.size := Nat.lt_of_lt_of_le (by go_simp) hb1.size
  have yb1_0_1 : w1.cell? ⟨w.heap.size + 1, 0, none⟩ = some (.slice A q ca) := (hb1.cell (p := ⟨w.heap.size + 1, 0, none⟩) (by go_simp)).trans (by go_simp)
  have lb2_1 : w.heap.size + 2 < w1.heap.size := Nat.lt_of_lt_of_le (by go_simp) hb1.size
  have yb2_0_1 : w1.cell? ⟨w.heap.size + 2, 0, none⟩ = some (.slice C nb cb) := (hb1.cell (p := ⟨w.heap.size + 2, 0, none⟩) (by go_simp)).trans (by go_simp)
  have lb3_1 : w.heap.size + 3 < w1.heap.size := Nat.lt_of_lt_of_le (by go_simp) hb1.size
  have yb3_0_1 : w1.cell? ⟨w.heap.size + 3, 0, none⟩ = some (.int .i64 dx) := (hb1.cell (p := ⟨w.heap.size + 3, 0, none⟩) (by go_simp)).trans (by go_simp)
  have yb3_1_1 : w1.cell? ⟨w.heap.size + 3, 1, none⟩ = some (.int .i64 dy) := (hb1.cell (p := ⟨w.heap.size + 3, 1, none⟩) (by go_simp)).trans (by go_simp)
  clear kw s1
  clear hb1
  go_wp2_with fail
  refine (szAssembly_any _ _ _ _ _ (by omega) (by omega) hlq).mono ?_
  rintro e w2 ⟨r2, rfl, (rfl | ⟨hr20, hr21, hzq⟩), hb2⟩
  · go_wp2
    go_ret
    exact ⟨rfl, bl_tr (by repeat (first | with_reducible assumption | with_reducible exact bl_refl _ | with_reducible refine bl_al ?_ _ | with_reducible refine bl_dr ?_)) hb2⟩
  have s2 : w1.heap.size ≤ w2.heap.size := by have := hb2.size; (try simp at this); omega
  have s2H := Lib.hid s2
  have kw_2 : Below w.heap.size w w2 := bl_tr (by repeat (first | with_reducible assumption | with_reducible exact bl_refl _ | with_reducible refine bl_al ?_ _ | with_reducible refine bl_dr ?_)) hb2
  have lb0_2 : w.heap.size < w2.heap.size := Nat.lt_of_lt_of_le (by go_simp) hb2.size
  have yb0_0_2 : w2.cell? ⟨w.heap.size, 0, none⟩ = some (.slice G n cg) := (hb2.cell (p := ⟨w.heap.size, 0, none⟩) (by go_simp)).trans (by go_simp)
  have yb0_1_2 : w2.cell? ⟨w.heap.size, 1, none⟩ = some (.slice T m ct) := (hb2.cell (p := ⟨w.heap.size, 1, none⟩) (by go_simp)).trans (by go_simp)
  have lb1_2 : w.heap.size + 1 < w2.heap.size := Nat.lt_of_lt_of_le (by go_simp) hb2.size
  have yb1_0_2 : w2.cell? ⟨w.heap.size + 1, 0, none⟩ = some (.slice A q ca) := (hb2.cell (p := ⟨w.heap.size + 1, 0, none⟩) (by go_simp)).trans (by go_simp)
  have lb2_2 : w.heap.size + 2 < w2.heap.size := Nat.lt_of_lt_of_le (by go_simp) hb2.size
  have yb2_0_2 : w2.cell? ⟨w.heap.size + 2, 0, none⟩ = some (.slice C nb cb) := (hb2.cell (p := ⟨w.heap.size + 2, 0, none⟩) (by go_simp)).trans (by go_simp)
  have lb3_2 : w.heap.size + 3 < w2.heap.size := Nat.lt_of_lt_of_le (by go_simp) hb2.size
  have yb3_0_2 : w2.cell? ⟨w.heap.size + 3, 0, none⟩ = some (.int .i64 dx) := (hb2.cell (p := ⟨w.heap.size + 3, 0, none⟩) (by go_simp)).trans (by go_simp)
  have yb3_1_2 : w2.cell? ⟨w.heap.size + 3, 1, none⟩ = some (.int .i64 dy) := (hb2.cell (p := ⟨w.heap.size + 3, 1, none⟩) (by go_simp)).trans (by go_simp)
  clear yb3_1_1 yb3_0_1 lb3_1 yb2_0_1 lb2_1 yb1_0_1 lb1_1 yb0_1_1 yb0_0_1 lb0_1 kw_1 s2
  clear hb2
  go_wp2_with fail
  refine (szAssembly_any _ _ _ _ _ (by omega) (by omega) hlnb).mono ?_
  rintro e w3 ⟨r3, rfl, (rfl | ⟨hr30, hr31, hznb⟩), hb3⟩
  · go_wp2
    go_ret
    exact ⟨rfl, bl_tr (by repeat (first | with_reducible assumption | with_reducible exact bl_refl _ | with_reducible refine bl_al ?_ _ | with_reducible refine bl_dr ?_)) hb3⟩
  have s3 : w2.heap.size ≤ w3.heap.size := by have := hb3.size; (try simp at this); omega
  have s3H := Lib.hid s3
  have kw_3 : Below w.heap.size w w3 := bl_tr (by repeat (first | with_reducible assumption | with_reducible exact bl_refl _ | with_reducible refine bl_al ?_ _ | with_reducible refine bl_dr ?_)) hb3
  have lb0_3 : w.heap.size < w3.heap.size := Nat.lt_of_lt_of_le (by go_simp) hb3.size
  have yb0_0_3 : w3.cell? ⟨w.heap.size, 0, none⟩ = some (.slice G n cg) := (hb3.cell (p := ⟨w.heap.size, 0, none⟩) (by go_simp)).trans (by go_simp)
  have yb0_1_3 : w3.cell? ⟨w.heap.size, 1, none⟩ = some (.slice T m ct) := (hb3.cell (p := ⟨w.heap.size, 1, none⟩) (by go_simp)).trans (by go_simp)
  have lb1_3 : w.heap.size + 1 < w3.heap.size := Nat.lt_of_lt_of_le (by go_simp) hb3.size
  have yb1_0_3 : w3.cell? ⟨w.heap.size + 1, 0, none⟩ = some (.slice A q ca) := (hb3.cell (p := ⟨w.heap.size + 1, 0, none⟩) (by go_simp)).trans (by go_simp)
  have lb2_3 : w.heap.size + 2 < w3.heap.size := Nat.lt_of_lt_of_le (by go_simp) hb3.size
  have yb2_0_3 : w3.cell? ⟨w.heap.size + 2, 0, none⟩ = some (.slice C nb cb) := (hb3.cell (p := ⟨w.heap.size + 2, 0, none⟩) (by go_simp)).trans (by go_simp)
  have lb3_3 : w.heap.size + 3 < w3.heap.size := Nat.lt_of_lt_of_le (by go_simp) hb3.size
  have yb3_0_3 : w3.cell? ⟨w.heap.size + 3, 0, none⟩ = some (.int .i64 dx) := (hb3.cell (p := ⟨w.heap.size + 3, 0, none⟩) (by go_simp)).trans (by go_simp)
  have yb3_1_3 : w3.cell? ⟨w.heap.size + 3, 1, none⟩ = some (.int .i64 dy) := (hb3.cell (p := ⟨w.heap.size + 3, 1, none⟩) (by go_simp)).trans (by go_simp)
  clear yb3_1_2 yb3_0_2 lb3_2 yb2_0_2 lb2_2 yb1_0_2 lb1_2 yb0_1_2 yb0_0_2 lb0_2 kw_2 s3
  clear hb3
  go_wp2_with fail
  refine wp_region_ord [(0, .q), (2, .q), (4, .q), (6, .q), (1, .g), (3, .g), (5, .g), (7, .g), (8, .g), (9, .q), (10, .q), (11, .q), (12, .q), (13, .q)] (by kernel_rfl) (by kernel_rfl) ?_
  simp only [pick, List.filterMap_cons, List.filterMap_nil, List.getElem?_toArray, List.getElem?_cons_zero, List.getElem?_cons_succ, Option.map_some]
  repeat (first | ((with_reducible refine wpD_p (fun K hK => ?_)); go_simp; refine hK _ ?_; clear hK K) | ((with_reducible refine wpD_q (fun K hK => ?_)); go_simp; (first | refine hK _ ?_ | (go_bits; refine hK _ ?_) | (go_bits; go_simp; refine hK _ ?_)); clear hK K))
  with_reducible refine wpD_g (fun K hK => ?_)
  go_simp
  refine (toTileSet_any _ _ _ _ _ _ gs ts _ (hG.below RGl.stable (by repeat (first | with_reducible assumption | with_reducible exact bl_refl _ | with_reducible refine bl_al ?_ _ | with_reducible refine bl_dr ?_))) (hT.below RTi.stable (by repeat (first | with_reducible assumption | with_reducible exact bl_refl _ | with_reducible refine bl_al ?_ _ | with_reducible refine bl_dr ?_))) (by omega) (by omega) htsH.out).mono ?_
  rintro e w4 ⟨G4, T4, rfl, o4, p4, hb4⟩
  refine ⟨_, rfl, hb4, hK _ _ ?_⟩
  clear hK K
  have s4 : w3.heap.size ≤ w4.heap.size := by have := hb4.size; (try simp at this); omega
  have s4H := Lib.hid s4
  have kw_4 : Below w.heap.size w w4 := bl_tr (by repeat (first | with_reducible assumption | with_reducible exact bl_refl _ | with_reducible refine bl_al ?_ _ | with_reducible refine bl_dr ?_)) hb4
  have lb0_4 : w.heap.size < w4.heap.size := Nat.lt_of_lt_of_le (by go_simp) hb4.size
  have yb0_0_4 : w4.cell? ⟨w.heap.size, 0, none⟩ = some (.slice G n cg) := (hb4.cell (p := ⟨w.heap.size, 0, none⟩) (by go_simp)).trans (by go_simp)
  have yb0_1_4 : w4.cell? ⟨w.heap.size, 1, none⟩ = some (.slice T m ct) := (hb4.cell (p := ⟨w.heap.size, 1, none⟩) (by go_simp)).trans (by go_simp)
  have lb1_4 : w.heap.size + 1 < w4.heap.size := Nat.lt_of_lt_of_le (by go_simp) hb4.size
  have yb1_0_4 : w4.cell? ⟨w.heap.size + 1, 0, none⟩ = some (.slice A q ca) := (hb4.cell (p := ⟨w.heap.size + 1, 0, none⟩) (by go_simp)).trans (by go_simp)
  have lb2_4 : w.heap.size + 2 < w4.heap.size := Nat.lt_of_lt_of_le (by go_simp) hb4.size
  have yb2_0_4 : w4.cell? ⟨w.heap.size + 2, 0, none⟩ = some (.slice C nb cb) := (hb4.cell (p := ⟨w.heap.size + 2, 0, none⟩) (by go_simp)).trans (by go_simp)
  have lb3_4 : w.heap.size + 3 < w4.heap.size := Nat.lt_of_lt_of_le (by go_simp) hb4.size
  have yb3_0_4 : w4.cell? ⟨w.heap.size + 3, 0, none⟩ = some (.int .i64 dx) := (hb4.cell (p := ⟨w.heap.size + 3, 0, none⟩) (by go_simp)).trans (by go_simp)
  have yb3_1_4 : w4.cell? ⟨w.heap.size + 3, 1, none⟩ = some (.int .i64 dy) := (hb4.cell (p := ⟨w.heap.size + 3, 1, none⟩) (by go_simp)).trans (by go_simp)
  clear yb3_1_3 yb3_0_3 lb3_3 yb2_0_3 lb2_3 yb1_0_3 lb1_3 yb0_1_3 yb0_0_3 lb0_3 kw_3 s4
  clear hb4
  have kc4 : Below w4.heap.size w4 w4 := bl_refl _
  have o4H := Lib.hid o4
  clear o4
  have p4H := Lib.hid p4
  clear p4
  with_reducible refine wpD_g (fun K hK => ?_)
  go_simp
  refine (toAssembly_any _ _ _ xs _ (hA.below RPl.stable (by repeat (first | with_reducible assumption | with_reducible exact bl_refl _ | with_reducible refine bl_al ?_ _ | with_reducible refine bl_dr ?_))) (by omega)).mono ?_
  rintro e w5 ⟨A5, rfl, o5, hb5⟩
  refine ⟨_, rfl, hb5, hK _ _ ?_⟩
  clear hK K
  have s5 : w4.heap.size ≤ w5.heap.size := by have := hb5.size; (try simp at this); omega
  have s5H := Lib.hid s5
  have kw_5 : Below w.heap.size w w5 := bl_tr (by repeat (first | with_reducible assumption | with_reducible exact bl_refl _ | with_reducible refine bl_al ?_ _ | with_reducible refine bl_dr ?_)) hb5
  have kc4_5 : Below w4.heap.size w4 w5 := bl_tr (by repeat (first | with_reducible assumption | with_reducible exact bl_refl _ | with_reducible refine bl_al ?_ _ | with_reducible refine bl_dr ?_)) hb5
  have lb0_5 : w.heap.size < w5.heap.size := Nat.lt_of_lt_of_le (by go_simp) hb5.size
  have yb0_0_5 : w5.cell? ⟨w.heap.size, 0, none⟩ = some (.slice G n cg) := (hb5.cell (p := ⟨w.heap.size, 0, none⟩) (by go_simp)).trans (by go_simp)
  have yb0_1_5 : w5.cell? ⟨w.heap.size, 1, none⟩ = some (.slice T m ct) := (hb5.cell (p := ⟨w.heap.size, 1, none⟩) (by go_simp)).trans (by go_simp)
  have lb1_5 : w.heap.size + 1 < w5.heap.size := Nat.lt_of_lt_of_le (by go_simp) hb5.size
  have yb1_0_5 : w5.cell? ⟨w.heap.size + 1, 0, none⟩ = some (.slice A q ca) := (hb5.cell (p := ⟨w.heap.size + 1, 0, none⟩) (by go_simp)).trans (by go_simp)
  have lb2_5 : w.heap.size + 2 < w5.heap.size := Nat.lt_of_lt_of_le (by go_simp) hb5.size
  have yb2_0_5 : w5.cell? ⟨w.heap.size + 2, 0, none⟩ = some (.slice C nb cb) := (hb5.cell (p := ⟨w.heap.size + 2, 0, none⟩) (by go_simp)).trans (by go_simp)
  have lb3_5 : w.heap.size + 3 < w5.heap.size := Nat.lt_of_lt_of_le (by go_simp) hb5.size
  have yb3_0_5 : w5.cell? ⟨w.heap.size + 3, 0, none⟩ = some (.int .i64 dx) := (hb5.cell (p := ⟨w.heap.size + 3, 0, none⟩) (by go_simp)).trans (by go_simp)
  have yb3_1_5 : w5.cell? ⟨w.heap.size + 3, 1, none⟩ = some (.int .i64 dy) := (hb5.cell (p := ⟨w.heap.size + 3, 1, none⟩) (by go_simp)).trans (by go_simp)
  clear yb3_1_4 yb3_0_4 lb3_4 yb2_0_4 lb2_4 yb1_0_4 lb1_4 yb0_1_4 yb0_0_4 lb0_4 kc4 kw_4 s5
  clear hb5
  have kc5 : Below w5.heap.size w5 w5 := bl_refl _
  have o5H := Lib.hid o5
  clear o5
  with_reducible refine wpD_g (fun K hK => ?_)
  go_simp
  refine (toAssembly_any _ _ _ ys _ (hC.below RPl.stable (by repeat (first | with_reducible assumption | with_reducible exact bl_refl _ | with_reducible refine bl_al ?_ _ | with_reducible refine bl_dr ?_))) (by omega)).mono ?_
  rintro e w6 ⟨A6, rfl, o6, hb6⟩
  refine ⟨_, rfl, hb6, hK _ _ ?_⟩
  clear hK K
  have s6 : w5.heap.size ≤ w6.heap.size := by have := hb6.size; (try simp at this); omega
  have s6H := Lib.hid s6
  have kw_6 : Below w.heap.size w w6 := bl_tr (by repeat (first | with_reducible assumption | with_reducible exact bl_refl _ | with_reducible refine bl_al ?_ _ | with_reducible refine bl_dr ?_)) hb6
  have kc4_6 : Below w4.heap.size w4 w6 := bl_tr (by repeat (first | with_reducible assumption | with_reducible exact bl_refl _ | with_reducible refine bl_al ?_ _ | with_reducible refine bl_dr ?_)) hb6
  have kc5_6 : Below w5.heap.size w5 w6 := bl_tr (by repeat (first | with_reducible assumption | with_reducible exact bl_refl _ | with_reducible refine bl_al ?_ _ | with_reducible refine bl_dr ?_)) hb6
  have lb0_6 : w.heap.size < w6.heap.size := Nat.lt_of_lt_of_le (by go_simp) hb6.size
  have yb0_0_6 : w6.cell? ⟨w.heap.size, 0, none⟩ = some (.slice G n cg) := (hb6.cell (p := ⟨w.heap.size, 0, none⟩) (by go_simp)).trans (by go_simp)
  have yb0_1_6 : w6.cell? ⟨w.heap.size, 1, none⟩ = some (.slice T m ct) := (hb6.cell (p := ⟨w.heap.size, 1, none⟩) (by go_simp)).trans (by go_simp)
  have lb1_6 : w.heap.size + 1 < w6.heap.size := Nat.lt_of_lt_of_le (by go_simp) hb6.size
  have yb1_0_6 : w6.cell? ⟨w.heap.size + 1, 0, none⟩ = some (.slice A q ca) := (hb6.cell (p := ⟨w.heap.size + 1, 0, none⟩) (by go_simp)).trans (by go_simp)
  have lb2_6 : w.heap.size + 2 < w6.heap.size := Nat.lt_of_lt_of_le (by go_simp) hb6.size
  have yb2_0_6 : w6.cell? ⟨w.heap.size + 2, 0, none⟩ = some (.slice C nb cb) := (hb6.cell (p := ⟨w.heap.size + 2, 0, none⟩) (by go_simp)).trans (by go_simp)
  have lb3_6 : w.heap.size + 3 < w6.heap.size := Nat.lt_of_lt_of_le (by go_simp) hb6.size
  have yb3_0_6 : w6.cell? ⟨w.heap.size + 3, 0, none⟩ = some (.int .i64 dx) := (hb6.cell (p := ⟨w.heap.size + 3, 0, none⟩) (by go_simp)).trans (by go_simp)
  have yb3_1_6 : w6.cell? ⟨w.heap.size + 3, 1, none⟩ = some (.int .i64 dy) := (hb6.cell (p := ⟨w.heap.size + 3, 1, none⟩) (by go_simp)).trans (by go_simp)
  clear yb3_1_5 yb3_0_5 lb3_5 yb2_0_5 lb2_5 yb1_0_5 lb1_5 yb0_1_5 yb0_0_5 lb0_5 kc5 kc4_5 kw_5 s6
  clear hb6
  have kc6 : Below w6.heap.size w6 w6 := bl_refl _
  have o6H := Lib.hid o6
  clear o6
  with_reducible refine wpD_g (fun K hK => ?_)
  go_simp
  refine (toPoint_any _ _ _).mono ?_
  rintro e w7 ⟨rfl, hb7⟩
  refine ⟨_, rfl, hb7, hK _ _ ?_⟩
  clear hK K
  have s7 : w6.heap.size ≤ w7.heap.size := by have := hb7.size; (try simp at this); omega
  have s7H := Lib.hid s7
  have kw_7 : Below w.heap.size w w7 := bl_tr (by repeat (first | with_reducible assumption | with_reducible exact bl_refl _ | with_reducible refine bl_al ?_ _ | with_reducible refine bl_dr ?_)) hb7
  have kc4_7 : Below w4.heap.size w4 w7 := bl_tr (by repeat (first | with_reducible assumption | with_reducible exact bl_refl _ | with_reducible refine bl_al ?_ _ | with_reducible refine bl_dr ?_)) hb7
  have kc5_7 : Below w5.heap.size w5 w7 := bl_tr (by repeat (first | with_reducible assumption | with_reducible exact bl_refl _ | with_reducible refine bl_al ?_ _ | with_reducible refine bl_dr ?_)) hb7
  have kc6_7 : Below w6.heap.size w6 w7 := bl_tr (by repeat (first | with_reducible assumption | with_reducible exact bl_refl _ | with_reducible refine bl_al ?_ _ | with_reducible refine bl_dr ?_)) hb7
  have lb0_7 : w.heap.size < w7.heap.size := Nat.lt_of_lt_of_le (by go_simp) hb7.size
  have yb0_0_7 : w7.cell? ⟨w.heap.size, 0, none⟩ = some (.slice G n cg) := (hb7.cell (p := ⟨w.heap.size, 0, none⟩) (by go_simp)).trans (by go_simp)
  have yb0_1_7 : w7.cell? ⟨w.heap.size, 1, none⟩ = some (.slice T m ct) := (hb7.cell (p := ⟨w.heap.size, 1, none⟩) (by go_simp)).trans (by go_simp)
  have lb1_7 : w.heap.size + 1 < w7.heap.size := Nat.lt_of_lt_of_le (by go_simp) hb7.size
  have yb1_0_7 : w7.cell? ⟨w.heap.size + 1, 0, none⟩ = some (.slice A q ca) := (hb7.cell (p := ⟨w.heap.size + 1, 0, none⟩) (by go_simp)).trans (by go_simp)
  have lb2_7 : w.heap.size + 2 < w7.heap.size := Nat.lt_of_lt_of_le (by go_simp) hb7.size
  have yb2_0_7 : w7.cell? ⟨w.heap.size + 2, 0, none⟩ = some (.slice C nb cb) := (hb7.cell (p := ⟨w.heap.size + 2, 0, none⟩) (by go_simp)).trans (by go_simp)
  have lb3_7 : w.heap.size + 3 < w7.heap.size := Nat.lt_of_lt_of_le (by go_simp) hb7.size
  have yb3_0_7 : w7.cell? ⟨w.heap.size + 3, 0, none⟩ = some (.int .i64 dx) := (hb7.cell (p := ⟨w.heap.size + 3, 0, none⟩) (by go_simp)).trans (by go_simp)
  have yb3_1_7 : w7.cell? ⟨w.heap.size + 3, 1, none⟩ = some (.int .i64 dy) := (hb7.cell (p := ⟨w.heap.size + 3, 1, none⟩) (by go_simp)).trans (by go_simp)
  clear yb3_1_6 yb3_0_6 lb3_6 yb2_0_6 lb2_6 yb1_0_6 lb1_6 yb0_1_6 yb0_0_6 lb0_6 kc6 kc5_6 kc4_6 kw_6 s7
  clear hb7
  with_reducible refine wpD_g (fun K hK => ?_)
  go_simp
  refine (sJoinStrength_any _ _ _ _ _ _ _ _ _ _ _ _ gs ts xs ys dx dy _ ⟨o4H.out.rd.below RGl.stable (by repeat (first | with_reducible assumption | with_reducible exact bl_refl _ | with_reducible refine bl_al ?_ _ | with_reducible refine bl_dr ?_)), p4H.out.rdTi.below RTi.stable (by repeat (first | with_reducible assumption | with_reducible exact bl_refl _ | with_reducible refine bl_al ?_ _ | with_reducible refine bl_dr ?_)), o5H.out.rd.below RPl.stable (by repeat (first | with_reducible assumption | with_reducible exact bl_refl _ | with_reducible refine bl_al ?_ _ | with_reducible refine bl_dr ?_)), by omega, by omega, by omega, hgk.out, htk.out⟩ ⟨o4H.out.rd.below RGl.stable (by repeat (first | with_reducible assumption | with_reducible exact bl_refl _ | with_reducible refine bl_al ?_ _ | with_reducible refine bl_dr ?_)), p4H.out.rdTi.below RTi.stable (by repeat (first | with_reducible assumption | with_reducible exact bl_refl _ | with_reducible refine bl_al ?_ _ | with_reducible refine bl_dr ?_)), o6H.out.rd.below RPl.stable (by repeat (first | with_reducible assumption | with_reducible exact bl_refl _ | with_reducible refine bl_al ?_ _ | with_reducible refine bl_dr ?_)), by omega, by omega, by omega, hgk.out, htk.out⟩).mono ?_
  rintro e w8 ⟨rfl, hb8⟩
  refine ⟨_, rfl, hb8, hK _ _ ?_⟩
  clear hK K
  have s8 : w7.heap.size ≤ w8.heap.size := by have := hb8.size; (try simp at this); omega
  have s8H := Lib.hid s8
  have kw_8 : Below w.heap.size w w8 := bl_tr (by repeat (first | with_reducible assumption | with_reducible exact bl_refl _ | with_reducible refine bl_al ?_ _ | with_reducible refine bl_dr ?_)) hb8
  have kc4_8 : Below w4.heap.size w4 w8 := bl_tr (by repeat (first | with_reducible assumption | with_reducible exact bl_refl _ | with_reducible refine bl_al ?_ _ | with_reducible refine bl_dr ?_)) hb8
  have kc5_8 : Below w5.heap.size w5 w8 := bl_tr (by repeat (first | with_reducible assumption | with_reducible exact bl_refl _ | with_reducible refine bl_al ?_ _ | with_reducible refine bl_dr ?_)) hb8
  have kc6_8 : Below w6.heap.size w6 w8 := bl_tr (by repeat (first | with_reducible assumption | with_reducible exact bl_refl _ | with_reducible refine bl_al ?_ _ | with_reducible refine bl_dr ?_)) hb8
  have lb0_8 : w.heap.size < w8.heap.size := Nat.lt_of_lt_of_le (by go_simp) hb8.size
  have yb0_0_8 : w8.cell? ⟨w.heap.size, 0, none⟩ = some (.slice G n cg) := (hb8.cell (p := ⟨w.heap.size, 0, none⟩) (by go_simp)).trans (by go_simp)
  have yb0_1_8 : w8.cell? ⟨w.heap.size, 1, none⟩ = some (.slice T m ct) := (hb8.cell (p := ⟨w.heap.size, 1, none⟩) (by go_simp)).trans (by go_simp)
  have lb1_8 : w.heap.size + 1 < w8.heap.size := Nat.lt_of_lt_of_le (by go_simp) hb8.size
  have yb1_0_8 : w8.cell? ⟨w.heap.size + 1, 0, none⟩ = some (.slice A q ca) := (hb8.cell (p := ⟨w.heap.size + 1, 0, none⟩) (by go_simp)).trans (by go_simp)
  have lb2_8 : w.heap.size + 2 < w8.heap.size := Nat.lt_of_lt_of_le (by go_simp) hb8.size
  have yb2_0_8 : w8.cell? ⟨w.heap.size + 2, 0, none⟩ = some (.slice C nb cb) := (hb8.cell (p := ⟨w.heap.size + 2, 0, none⟩) (by go_simp)).trans (by go_simp)
  have lb3_8 : w.heap.size + 3 < w8.heap.size := Nat.lt_of_lt_of_le (by go_simp) hb8.size
  have yb3_0_8 : w8.cell? ⟨w.heap.size + 3, 0, none⟩ = some (.int .i64 dx) := (hb8.cell (p := ⟨w.heap.size + 3, 0, none⟩) (by go_simp)).trans (by go_simp)
  have yb3_1_8 : w8.cell? ⟨w.heap.size + 3, 1, none⟩ = some (.int .i64 dy) := (hb8.cell (p := ⟨w.heap.size + 3, 1, none⟩) (by go_simp)).trans (by go_simp)
  clear yb3_1_7 yb3_0_7 lb3_7 yb2_0_7 lb2_7 yb1_0_7 lb1_7 yb0_1_7 yb0_0_7 lb0_7 kc6_7 kc5_7 kc4_7 kw_7 s8
  clear hb8
  have kr8 : Below w8.heap.size w8 w8 := bl_refl _
  repeat (first | ((with_reducible refine wpD_p (fun K hK => ?_)); go_simp; refine hK _ ?_; clear hK K) | ((with_reducible refine wpD_q (fun K hK => ?_)); go_simp; (first | refine hK _ ?_ | (go_bits; refine hK _ ?_) | (go_bits; go_simp; refine hK _ ?_)); clear hK K))
  with_reducible refine wpD_nil ?_
  go_wp2_with fail
  refine (toTileSet_any _ _ _ _ _ _ gs ts _ (hG.below RGl.stable (by repeat (first | with_reducible assumption | with_reducible exact bl_refl _ | with_reducible refine bl_al ?_ _ | with_reducible refine bl_dr ?_))) (hT.below RTi.stable (by repeat (first | with_reducible assumption | with_reducible exact bl_refl _ | with_reducible refine bl_al ?_ _ | with_reducible refine bl_dr ?_))) (by omega) (by omega) htsH.out).mono ?_
  rintro e w9 ⟨G9, T9, rfl, o9, p9, hb9⟩
  have s9 : w8.heap.size ≤ w9.heap.size := by have := hb9.size; (try simp at this); omega
  have s9H := Lib.hid s9
  have kw_9 : Below w.heap.size w w9 := bl_tr (by repeat (first | with_reducible assumption | with_reducible exact bl_refl _ | with_reducible refine bl_al ?_ _ | with_reducible refine bl_dr ?_)) hb9
  have kc4_9 : Below w4.heap.size w4 w9 := bl_tr (by repeat (first | with_reducible assumption | with_reducible exact bl_refl _ | with_reducible refine bl_al ?_ _ | with_reducible refine bl_dr ?_)) hb9
  have kc5_9 : Below w5.heap.size w5 w9 := bl_tr (by repeat (first | with_reducible assumption | with_reducible exact bl_refl _ | with_reducible refine bl_al ?_ _ | with_reducible refine bl_dr ?_)) hb9
  have kc6_9 : Below w6.heap.size w6 w9 := bl_tr (by repeat (first | with_reducible assumption | with_reducible exact bl_refl _ | with_reducible refine bl_al ?_ _ | with_reducible refine bl_dr ?_)) hb9
  have kr8_9 : Below w8.heap.size w8 w9 := bl_tr (by repeat (first | with_reducible assumption | with_reducible exact bl_refl _ | with_reducible refine bl_al ?_ _ | with_reducible refine bl_dr ?_)) hb9
  have lb0_9 : w.heap.size < w9.heap.size := Nat.lt_of_lt_of_le (by go_simp) hb9.size
  have yb0_0_9 : w9.cell? ⟨w.heap.size, 0, none⟩ = some (.slice G n cg) := (hb9.cell (p := ⟨w.heap.size, 0, none⟩) (by go_simp)).trans (by go_simp)
  have yb0_1_9 : w9.cell? ⟨w.heap.size, 1, none⟩ = some (.slice T m ct) := (hb9.cell (p := ⟨w.heap.size, 1, none⟩) (by go_simp)).trans (by go_simp)
  have lb1_9 : w.heap.size + 1 < w9.heap.size := Nat.lt_of_lt_of_le (by go_simp) hb9.size
  have yb1_0_9 : w9.cell? ⟨w.heap.size + 1, 0, none⟩ = some (.slice A q ca) := (hb9.cell (p := ⟨w.heap.size + 1, 0, none⟩) (by go_simp)).trans (by go_simp)
  have lb2_9 : w.heap.size + 2 < w9.heap.size := Nat.lt_of_lt_of_le (by go_simp) hb9.size
  have yb2_0_9 : w9.cell? ⟨w.heap.size + 2, 0, none⟩ = some (.slice C nb cb) := (hb9.cell (p := ⟨w.heap.size + 2, 0, none⟩) (by go_simp)).trans (by go_simp)
  have lb3_9 : w.heap.size + 3 < w9.heap.size := Nat.lt_of_lt_of_le (by go_simp) hb9.size
  have yb3_0_9 : w9.cell? ⟨w.heap.size + 3, 0, none⟩ = some (.int .i64 dx) := (hb9.cell (p := ⟨w.heap.size + 3, 0, none⟩) (by go_simp)).trans (by go_simp)
  have yb3_1_9 : w9.cell? ⟨w.heap.size + 3, 1, none⟩ = some (.int .i64 dy) := (hb9.cell (p := ⟨w.heap.size + 3, 1, none⟩) (by go_simp)).trans (by go_simp)
  clear yb3_1_8 yb3_0_8 lb3_8 yb2_0_8 lb2_8 yb1_0_8 lb1_8 yb0_1_8 yb0_0_8 lb0_8 kr8 kc6_8 kc5_8 kc4_8 kw_8 s9
  clear hb9
  have kc9 : Below w9.heap.size w9 w9 := bl_refl _
  have o9H := Lib.hid o9
  clear o9
  have p9H := Lib.hid p9
  clear p9
  go_wp2_with fail
  refine (toAssembly_any _ _ _ xs _ (hA.below RPl.stable (by repeat (first | with_reducible assumption | with_reducible exact bl_refl _ | with_reducible refine bl_al ?_ _ | with_reducible refine bl_dr ?_))) (by omega)).mono ?_
  rintro e w10 ⟨A10, rfl, o10, hb10⟩
  have s10 : w9.heap.size + 1 ≤ w10.heap.size := by have := hb10.size; (try simp at this); omega
  have s10H := Lib.hid s10
  have kw_10 : Below w.heap.size w w10 := bl_tr (by repeat (first | with_reducible assumption | with_reducible exact bl_refl _ | with_reducible refine bl_al ?_ _ | with_reducible refine bl_dr ?_)) hb10
  have kc4_10 : Below w4.heap.size w4 w10 := bl_tr (by repeat (first | with_reducible assumption | with_reducible exact bl_refl _ | with_reducible refine bl_al ?_ _ | with_reducible refine bl_dr ?_)) hb10
  have kc5_10 : Below w5.heap.size w5 w10 := bl_tr (by repeat (first | with_reducible assumption | with_reducible exact bl_refl _ | with_reducible refine bl_al ?_ _ | with_reducible refine bl_dr ?_)) hb10
  have kc6_10 : Below w6.heap.size w6 w10 := bl_tr (by repeat (first | with_reducible assumption | with_reducible exact bl_refl _ | with_reducible refine bl_al ?_ _ | with_reducible refine bl_dr ?_)) hb10
  have kr8_10 : Below w8.heap.size w8 w10 := bl_tr (by repeat (first | with_reducible assumption | with_reducible exact bl_refl _ | with_reducible refine bl_al ?_ _ | with_reducible refine bl_dr ?_)) hb10
  have kc9_10 : Below w9.heap.size w9 w10 := bl_tr (by repeat (first | with_reducible assumption | with_reducible exact bl_refl _ | with_reducible refine bl_al ?_ _ | with_reducible refine bl_dr ?_)) hb10
  have lb0_10 : w.heap.size < w10.heap.size := Nat.lt_of_lt_of_le (by go_simp) hb10.size
  have yb0_0_10 : w10.cell? ⟨w.heap.size, 0, none⟩ = some (.slice G n cg) := (hb10.cell (p := ⟨w.heap.size, 0, none⟩) (by go_simp)).trans (by go_simp)
  have yb0_1_10 : w10.cell? ⟨w.heap.size, 1, none⟩ = some (.slice T m ct) := (hb10.cell (p := ⟨w.heap.size, 1, none⟩) (by go_simp)).trans (by go_simp)
  have lb1_10 : w.heap.size + 1 < w10.heap.size := Nat.lt_of_lt_of_le (by go_simp) hb10.size
  have yb1_0_10 : w10.cell? ⟨w.heap.size + 1, 0, none⟩ = some (.slice A q ca) := (hb10.cell (p := ⟨w.heap.size + 1, 0, none⟩) (by go_simp)).trans (by go_simp)
  have lb2_10 : w.heap.size + 2 < w10.heap.size := Nat.lt_of_lt_of_le (by go_simp) hb10.size
  have yb2_0_10 : w10.cell? ⟨w.heap.size + 2, 0, none⟩ = some (.slice C nb cb) := (hb10.cell (p := ⟨w.heap.size + 2, 0, none⟩) (by go_simp)).trans (by go_simp)
  have lb3_10 : w.heap.size + 3 < w10.heap.size := Nat.lt_of_lt_of_le (by go_simp) hb10.size
  have yb3_0_10 : w10.cell? ⟨w.heap.size + 3, 0, none⟩ = some (.int .i64 dx) := (hb10.cell (p := ⟨w.heap.size + 3, 0, none⟩) (by go_simp)).trans (by go_simp)
  have yb3_1_10 : w10.cell? ⟨w.heap.size + 3, 1, none⟩ = some (.int .i64 dy) := (hb10.cell (p := ⟨w.heap.size + 3, 1, none⟩) (by go_simp)).trans (by go_simp)
  have lb4_10 : w9.heap.size < w10.heap.size := Nat.lt_of_lt_of_le (by go_simp) hb10.size
  have yb4_0_10 : w10.cell? ⟨w9.heap.size, 0, none⟩ = some (.slice G9 n n) := (hb10.cell (p := ⟨w9.heap.size, 0, none⟩) (by go_simp)).trans (by go_simp)
  have yb4_1_10 : w10.cell? ⟨w9.heap.size, 1, none⟩ = some (.slice T9 m m) := (hb10.cell (p := ⟨w9.heap.size, 1, none⟩) (by go_simp)).trans (by go_simp)
  clear yb3_1_9 yb3_0_9 lb3_9 yb2_0_9 lb2_9 yb1_0_9 lb1_9 yb0_1_9 yb0_0_9 lb0_9 kc9 kr8_9 kc6_9 kc5_9 kc4_9 kw_9 s10
  clear hb10
  have kc10 : Below w10.heap.size w10 w10 := bl_refl _
  have o10H := Lib.hid o10
  clear o10
  go_wp2_with fail
  refine (toAssembly_any _ _ _ ys _ (hC.below RPl.stable (by repeat (first | with_reducible assumption | with_reducible exact bl_refl _ | with_reducible refine bl_al ?_ _ | with_reducible refine bl_dr ?_))) (by omega)).mono ?_
  rintro e w11 ⟨A11, rfl, o11, hb11⟩
  have s11 : w10.heap.size + 1 ≤ w11.heap.size := by have := hb11.size; (try simp at this); omega
  have s11H := Lib.hid s11
  have kw_11 : Below w.heap.size w w11 := bl_tr (by repeat (first | with_reducible assumption | with_reducible exact bl_refl _ | with_reducible refine bl_al ?_ _ | with_reducible refine bl_dr ?_)) hb11
  have kc4_11 : Below w4.heap.size w4 w11 := bl_tr (by repeat (first | with_reducible assumption | with_reducible exact bl_refl _ | with_reducible refine bl_al ?_ _ | with_reducible refine bl_dr ?_)) hb11
  have kc5_11 : Below w5.heap.size w5 w11 := bl_tr (by repeat (first | with_reducible assumption | with_reducible exact bl_refl _ | with_reducible refine bl_al ?_ _ | with_reducible refine bl_dr ?_)) hb11
  have kc6_11 : Below w6.heap.size w6 w11 := bl_tr (by repeat (first | with_reducible assumption | with_reducible exact bl_refl _ | with_reducible refine bl_al ?_ _ | with_reducible refine bl_dr ?_)) hb11
  have kr8_11 : Below w8.heap.size w8 w11 := bl_tr (by repeat (first | with_reducible assumption | with_reducible exact bl_refl _ | with_reducible refine bl_al ?_ _ | with_reducible refine bl_dr ?_)) hb11
  have kc9_11 : Below w9.heap.size w9 w11 := bl_tr (by repeat (first | with_reducible assumption | with_reducible exact bl_refl _ | with_reducible refine bl_al ?_ _ | with_reducible refine bl_dr ?_)) hb11
  have kc10_11 : Below w10.heap.size w10 w11 := bl_tr (by repeat (first | with_reducible assumption | with_reducible exact bl_refl _ | with_reducible refine bl_al ?_ _ | with_reducible refine bl_dr ?_)) hb11
  have lb0_11 : w.heap.size < w11.heap.size := Nat.lt_of_lt_of_le (by go_simp) hb11.size
  have yb0_0_11 : w11.cell? ⟨w.heap.size, 0, none⟩ = some (.slice G n cg) := (hb11.cell (p := ⟨w.heap.size, 0, none⟩) (by go_simp)).trans (by go_simp)
  have yb0_1_11 : w11.cell? ⟨w.heap.size, 1, none⟩ = some (.slice T m ct) := (hb11.cell (p := ⟨w.heap.size, 1, none⟩) (by go_simp)).trans (by go_simp)
  have lb1_11 : w.heap.size + 1 < w11.heap.size := Nat.lt_of_lt_of_le (by go_simp) hb11.size
  have yb1_0_11 : w11.cell? ⟨w.heap.size + 1, 0, none⟩ = some (.slice A q ca) := (hb11.cell (p := ⟨w.heap.size + 1, 0, none⟩) (by go_simp)).trans (by go_simp)
  have lb2_11 : w.heap.size + 2 < w11.heap.size := Nat.lt_of_lt_of_le (by go_simp) hb11.size
  have yb2_0_11 : w11.cell? ⟨w.heap.size + 2, 0, none⟩ = some (.slice C nb cb) := (hb11.cell (p := ⟨w.heap.size + 2, 0, none⟩) (by go_simp)).trans (by go_simp)
  have lb3_11 : w.heap.size + 3 < w11.heap.size := Nat.lt_of_lt_of_le (by go_simp) hb11.size
  have yb3_0_11 : w11.cell? ⟨w.heap.size + 3, 0, none⟩ = some (.int .i64 dx) := (hb11.cell (p := ⟨w.heap.size + 3, 0, none⟩) (by go_simp)).trans (by go_simp)
  have yb3_1_11 : w11.cell? ⟨w.heap.size + 3, 1, none⟩ = some (.int .i64 dy) := (hb11.cell (p := ⟨w.heap.size + 3, 1, none⟩) (by go_simp)).trans (by go_simp)
  have lb4_11 : w9.heap.size < w11.heap.size := Nat.lt_of_lt_of_le (by go_simp) hb11.size
  have yb4_0_11 : w11.cell? ⟨w9.heap.size, 0, none⟩ = some (.slice G9 n n) := (hb11.cell (p := ⟨w9.heap.size, 0, none⟩) (by go_simp)).trans (by go_simp)
  have yb4_1_11 : w11.cell? ⟨w9.heap.size, 1, none⟩ = some (.slice T9 m m) := (hb11.cell (p := ⟨w9.heap.size, 1, none⟩) (by go_simp)).trans (by go_simp)
  have lb5_11 : w10.heap.size < w11.heap.size := Nat.lt_of_lt_of_le (by go_simp) hb11.size
  have yb5_0_11 : w11.cell? ⟨w10.heap.size, 0, none⟩ = some (.slice A10 q q) := (hb11.cell (p := ⟨w10.heap.size, 0, none⟩) (by go_simp)).trans (by go_simp)
  clear yb4_1_10 yb4_0_10 lb4_10 yb3_1_10 yb3_0_10 lb3_10 yb2_0_10 lb2_10 yb1_0_10 lb1_10 yb0_1_10 yb0_0_10 lb0_10 kc10 kc9_10 kr8_10 kc6_10 kc5_10 kc4_10 kw_10 s11
  clear hb11
  have kc11 : Below w11.heap.size w11 w11 := bl_refl _
  have o11H := Lib.hid o11
  clear o11
  go_wp2_with fail
  refine wp_region_ord [(0, .q), (1, .q), (2, .q), (3, .q), (4, .g), (5, .g), (6, .q), (7, .q), (8, .q), (9, .q), (10, .q)] (by kernel_rfl) (by kernel_rfl) ?_
  simp only [pick, List.filterMap_cons, List.filterMap_nil, List.getElem?_toArray, List.getElem?_cons_zero, List.getElem?_cons_succ, Option.map_some]
  repeat (first | ((with_reducible refine wpD_p (fun K hK => ?_)); go_simp; refine hK _ ?_; clear hK K) | ((with_reducible refine wpD_q (fun K hK => ?_)); go_simp; (first | refine hK _ ?_ | (go_bits; refine hK _ ?_) | (go_bits; go_simp; refine hK _ ?_)); clear hK K))
  with_reducible refine wpD_g (fun K hK => ?_)
  go_simp
  refine (toPoint_any _ _ _).mono ?_
  rintro e w12 ⟨rfl, hb12⟩
  refine ⟨_, rfl, hb12, hK _ _ ?_⟩
  clear hK K
  have s12 : w11.heap.size + 1 ≤ w12.heap.size := by have := hb12.size; (try simp at this); omega
  have s12H := Lib.hid s12
  have kw_12 : Below w.heap.size w w12 := bl_tr (by repeat (first | with_reducible assumption | with_reducible exact bl_refl _ | with_reducible refine bl_al ?_ _ | with_reducible refine bl_dr ?_)) hb12
  have kc4_12 : Below w4.heap.size w4 w12 := bl_tr (by repeat (first | with_reducible assumption | with_reducible exact bl_refl _ | with_reducible refine bl_al ?_ _ | with_reducible refine bl_dr ?_)) hb12
  have kc5_12 : Below w5.heap.size w5 w12 := bl_tr (by repeat (first | with_reducible assumption | with_reducible exact bl_refl _ | with_reducible refine bl_al ?_ _ | with_reducible refine bl_dr ?_)) hb12
  have kc6_12 : Below w6.heap.size w6 w12 := bl_tr (by repeat (first | with_reducible assumption | with_reducible exact bl_refl _ | with_reducible refine bl_al ?_ _ | with_reducible refine bl_dr ?_)) hb12
  have kr8_12 : Below w8.heap.size w8 w12 := bl_tr (by repeat (first | with_reducible assumption | with_reducible exact bl_refl _ | with_reducible refine bl_al ?_ _ | with_reducible refine bl_dr ?_)) hb12
  have kc9_12 : Below w9.heap.size w9 w12 := bl_tr (by repeat (first | with_reducible assumption | with_reducible exact bl_refl _ | with_reducible refine bl_al ?_ _ | with_reducible refine bl_dr ?_)) hb12
  have kc10_12 : Below w10.heap.size w10 w12 := bl_tr (by repeat (first | with_reducible assumption | with_reducible exact bl_refl _ | with_reducible refine bl_al ?_ _ | with_reducible refine bl_dr ?_)) hb12
  have kc11_12 : Below w11.heap.size w11 w12 := bl_tr (by repeat (first | with_reducible assumption | with_reducible exact bl_refl _ | with_reducible refine bl_al ?_ _ | with_reducible refine bl_dr ?_)) hb12
  have lb0_12 : w.heap.size < w12.heap.size := Nat.lt_of_lt_of_le (by go_simp) hb12.size
  have yb0_0_12 : w12.cell? ⟨w.heap.size, 0, none⟩ = some (.slice G n cg) := (hb12.cell (p := ⟨w.heap.size, 0, none⟩) (by go_simp)).trans (by go_simp)
  have yb0_1_12 : w12.cell? ⟨w.heap.size, 1, none⟩ = some (.slice T m ct) := (hb12.cell (p := ⟨w.heap.size, 1, none⟩) (by go_simp)).trans (by go_simp)
  have lb1_12 : w.heap.size + 1 < w12.heap.size := Nat.lt_of_lt_of_le (by go_simp) hb12.size
  have yb1_0_12 : w12.cell? ⟨w.heap.size + 1, 0, none⟩ = some (.slice A q ca) := (hb12.cell (p := ⟨w.heap.size + 1, 0, none⟩) (by go_simp)).trans (by go_simp)
  have lb2_12 : w.heap.size + 2 < w12.heap.size := Nat.lt_of_lt_of_le (by go_simp) hb12.size
  have yb2_0_12 : w12.cell? ⟨w.heap.size + 2, 0, none⟩ = some (.slice C nb cb) := (hb12.cell (p := ⟨w.heap.size + 2, 0, none⟩) (by go_simp)).trans (by go_simp)
  have lb3_12 : w.heap.size + 3 < w12.heap.size := Nat.lt_of_lt_of_le (by go_simp) hb12.size
  have yb3_0_12 : w12.cell? ⟨w.heap.size + 3, 0, none⟩ = some (.int .i64 dx) := (hb12.cell (p := ⟨w.heap.size + 3, 0, none⟩) (by go_simp)).trans (by go_simp)
  have yb3_1_12 : w12.cell? ⟨w.heap.size + 3, 1, none⟩ = some (.int .i64 dy) := (hb12.cell (p := ⟨w.heap.size + 3, 1, none⟩) (by go_simp)).trans (by go_simp)
  have lb4_12 : w9.heap.size < w12.heap.size := Nat.lt_of_lt_of_le (by go_simp) hb12.size
  have yb4_0_12 : w12.cell? ⟨w9.heap.size, 0, none⟩ = some (.slice G9 n n) := (hb12.cell (p := ⟨w9.heap.size, 0, none⟩) (by go_simp)).trans (by go_simp)
  have yb4_1_12 : w12.cell? ⟨w9.heap.size, 1, none⟩ = some (.slice T9 m m) := (hb12.cell (p := ⟨w9.heap.size, 1, none⟩) (by go_simp)).trans (by go_simp)
  have lb5_12 : w10.heap.size < w12.heap.size := Nat.lt_of_lt_of_le (by go_simp) hb12.size
  have yb5_0_12 : w12.cell? ⟨w10.heap.size, 0, none⟩ = some (.slice A10 q q) := (hb12.cell (p := ⟨w10.heap.size, 0, none⟩) (by go_simp)).trans (by go_simp)
  have lb6_12 : w11.heap.size < w12.heap.size := Nat.lt_of_lt_of_le (by go_simp) hb12.size
  have yb6_0_12 : w12.cell? ⟨w11.heap.size, 0, none⟩ = some (.slice A11 nb nb) := (hb12.cell (p := ⟨w11.heap.size, 0, none⟩) (by go_simp)).trans (by go_simp)
  clear yb5_0_11 lb5_11 yb4_1_11 yb4_0_11 lb4_11 yb3_1_11 yb3_0_11 lb3_11 yb2_0_11 lb2_11 yb1_0_11 lb1_11 yb0_1_11 yb0_0_11 lb0_11 kc11 kc10_11 kc9_11 kr8_11 kc6_11 kc5_11 kc4_11 kw_11 s12
  clear hb12
  with_reducible refine wpD_g (fun K hK => ?_)
  go_simp
  refine (JoinStrength_any _ _ _ _ _ _ _ _ _ _ _ _ gs ts xs ys dx dy _ ⟨o9H.out.rd.below RGl.stable (by repeat (first | with_reducible assumption | with_reducible exact bl_refl _ | with_reducible refine bl_al ?_ _ | with_reducible refine bl_dr ?_)), p9H.out.rdTi.below RTi.stable (by repeat (first | with_reducible assumption | with_reducible exact bl_refl _ | with_reducible refine bl_al ?_ _ | with_reducible refine bl_dr ?_)), o10H.out.rd.below RPl.stable (by repeat (first | with_reducible assumption | with_reducible exact bl_refl _ | with_reducible refine bl_al ?_ _ | with_reducible refine bl_dr ?_)), by omega, by omega, by omega, hgk.out, htk.out⟩ ⟨o9H.out.rd.below RGl.stable (by repeat (first | with_reducible assumption | with_reducible exact bl_refl _ | with_reducible refine bl_al ?_ _ | with_reducible refine bl_dr ?_)), p9H.out.rdTi.below RTi.stable (by repeat (first | with_reducible assumption | with_reducible exact bl_refl _ | with_reducible refine bl_al ?_ _ | with_reducible refine bl_dr ?_)), o11H.out.rd.below RPl.stable (by repeat (first | with_reducible assumption | with_reducible exact bl_refl _ | with_reducible refine bl_al ?_ _ | with_reducible refine bl_dr ?_)), by omega, by omega, by omega, hgk.out, htk.out⟩).mono ?_
  rintro e w13 ⟨rfl, hb13⟩
  refine ⟨_, rfl, hb13, hK _ _ ?_⟩
  clear hK K
  have s13 : w12.heap.size ≤ w13.heap.size := by have := hb13.size; (try simp at this); omega
  have s13H := Lib.hid s13
  have kw_13 : Below w.heap.size w w13 := bl_tr (by repeat (first | with_reducible assumption | with_reducible exact bl_refl _ | with_reducible refine bl_al ?_ _ | with_reducible refine bl_dr ?_)) hb13
  have kc4_13 : Below w4.heap.size w4 w13 := bl_tr (by repeat (first | with_reducible assumption | with_reducible exact bl_refl _ | with_reducible refine bl_al ?_ _ | with_reducible refine bl_dr ?_)) hb13
  have kc5_13 : Below w5.heap.size w5 w13 := bl_tr (by repeat (first | with_reducible assumption | with_reducible exact bl_refl _ | with_reducible refine bl_al ?_ _ | with_reducible refine bl_dr ?_)) hb13
  have kc6_13 : Below w6.heap.size w6 w13 := bl_tr (by repeat (first | with_reducible assumption | with_reducible exact bl_refl _ | with_reducible refine bl_al ?_ _ | with_reducible refine bl_dr ?_)) hb13
  have kr8_13 : Below w8.heap.size w8 w13 := bl_tr (by repeat (first | with_reducible assumption | with_reducible exact bl_refl _ | with_reducible refine bl_al ?_ _ | with_reducible refine bl_dr ?_)) hb13
  have kc9_13 : Below w9.heap.size w9 w13 := bl_tr (by repeat (first | with_reducible assumption | with_reducible exact bl_refl _ | with_reducible refine bl_al ?_ _ | with_reducible refine bl_dr ?_)) hb13
  have kc10_13 : Below w10.heap.size w10 w13 := bl_tr (by repeat (first | with_reducible assumption | with_reducible exact bl_refl _ | with_reducible refine bl_al ?_ _ | with_reducible refine bl_dr ?_)) hb13
  have kc11_13 : Below w11.heap.size w11 w13 := bl_tr (by repeat (first | with_reducible assumption | with_reducible exact bl_refl _ | with_reducible refine bl_al ?_ _ | with_reducible refine bl_dr ?_)) hb13
  have lb0_13 : w.heap.size < w13.heap.size := Nat.lt_of_lt_of_le (by go_simp) hb13.size
  have yb0_0_13 : w13.cell? ⟨w.heap.size, 0, none⟩ = some (.slice G n cg) := (hb13.cell (p := ⟨w.heap.size, 0, none⟩) (by go_simp)).trans (by go_simp)
  have yb0_1_13 : w13.cell? ⟨w.heap.size, 1, none⟩ = some (.slice T m ct) := (hb13.cell (p := ⟨w.heap.size, 1, none⟩) (by go_simp)).trans (by go_simp)
  have lb1_13 : w.heap.size + 1 < w13.heap.size := Nat.lt_of_lt_of_le (by go_simp) hb13.size
  have yb1_0_13 : w13.cell? ⟨w.heap.size + 1, 0, none⟩ = some (.slice A q ca) := (hb13.cell (p := ⟨w.heap.size + 1, 0, none⟩) (by go_simp)).trans (by go_simp)
  have lb2_13 : w.heap.size + 2 < w13.heap.size := Nat.lt_of_lt_of_le (by go_simp) hb13.size
  have yb2_0_13 : w13.cell? ⟨w.heap.size + 2, 0, none⟩ = some (.slice C nb cb) := (hb13.cell (p := ⟨w.heap.size + 2, 0, none⟩) (by go_simp)).trans (by go_simp)
  have lb3_13 : w.heap.size + 3 < w13.heap.size := Nat.lt_of_lt_of_le (by go_simp) hb13.size
  have yb3_0_13 : w13.cell? ⟨w.heap.size + 3, 0, none⟩ = some (.int .i64 dx) := (hb13.cell (p := ⟨w.heap.size + 3, 0, none⟩) (by go_simp)).trans (by go_simp)
  have yb3_1_13 : w13.cell? ⟨w.heap.size + 3, 1, none⟩ = some (.int .i64 dy) := (hb13.cell (p := ⟨w.heap.size + 3, 1, none⟩) (by go_simp)).trans (by go_simp)
  have lb4_13 : w9.heap.size < w13.heap.size := Nat.lt_of_lt_of_le (by go_simp) hb13.size
  have yb4_0_13 : w13.cell? ⟨w9.heap.size, 0, none⟩ = some (.slice G9 n n) := (hb13.cell (p := ⟨w9.heap.size, 0, none⟩) (by go_simp)).trans (by go_simp)
  have yb4_1_13 : w13.cell? ⟨w9.heap.size, 1, none⟩ = some (.slice T9 m m) := (hb13.cell (p := ⟨w9.heap.size, 1, none⟩) (by go_simp)).trans (by go_simp)
  have lb5_13 : w10.heap.size < w13.heap.size := Nat.lt_of_lt_of_le (by go_simp) hb13.size
  have yb5_0_13 : w13.cell? ⟨w10.heap.size, 0, none⟩ = some (.slice A10 q q) := (hb13.cell (p := ⟨w10.heap.size, 0, none⟩) (by go_simp)).trans (by go_simp)
  have lb6_13 : w11.heap.size < w13.heap.size := Nat.lt_of_lt_of_le (by go_simp) hb13.size
  have yb6_0_13 : w13.cell? ⟨w11.heap.size, 0, none⟩ = some (.slice A11 nb nb) := (hb13.cell (p := ⟨w11.heap.size, 0, none⟩) (by go_simp)).trans (by go_simp)
  clear yb6_0_12 lb6_12 yb5_0_12 lb5_12 yb4_1_12 yb4_0_12 lb4_12 yb3_1_12 yb3_0_12 lb3_12 yb2_0_12 lb2_12 yb1_0_12 lb1_12 yb0_1_12 yb0_0_12 lb0_12 kc11_12 kc10_12 kc9_12 kr8_12 kc6_12 kc5_12 kc4_12 kw_12 s13
  clear hb13
  have kr13 : Below w13.heap.size w13 w13 := bl_refl _
  repeat (first | ((with_reducible refine wpD_p (fun K hK => ?_)); go_simp; refine hK _ ?_; clear hK K) | ((with_reducible refine wpD_q (fun K hK => ?_)); go_simp; (first | refine hK _ ?_ | (go_bits; refine hK _ ?_) | (go_bits; go_simp; refine hK _ ?_)); clear hK K))
  with_reducible refine wpD_nil ?_
  go_wp2_with fail
  refine wp_region_ord [(0, .q), (1, .q), (2, .g), (3, .g), (4, .q)] (by kernel_rfl) (by kernel_rfl) ?_
  simp only [pick, List.filterMap_cons, List.filterMap_nil, List.getElem?_toArray, List.getElem?_cons_zero, List.getElem?_cons_succ, Option.map_some]
  repeat (first | ((with_reducible refine wpD_p (fun K hK => ?_)); go_simp; refine hK _ ?_; clear hK K) | ((with_reducible refine wpD_q (fun K hK => ?_)); go_simp; (first | refine hK _ ?_ | (go_bits; refine hK _ ?_) | (go_bits; go_simp; refine hK _ ?_)); clear hK K))
  with_reducible refine wpD_g (fun K hK => ?_)
  go_simp
  refine (toTileSet_any _ _ _ _ _ _ gs ts _ (hG.below RGl.stable (by repeat (first | with_reducible assumption | with_reducible exact bl_refl _ | with_reducible refine bl_al ?_ _ | with_reducible refine bl_dr ?_))) (hT.below RTi.stable (by repeat (first | with_reducible assumption | with_reducible exact bl_refl _ | with_reducible refine bl_al ?_ _ | with_reducible refine bl_dr ?_))) (by omega) (by omega) htsH.out).mono ?_
  rintro e w14 ⟨G14, T14, rfl, o14, p14, hb14⟩
  refine ⟨_, rfl, hb14, hK _ _ ?_⟩
  clear hK K
  have s14 : w13.heap.size ≤ w14.heap.size := by have := hb14.size; (try simp at this); omega
  have s14H := Lib.hid s14
  have kw_14 : Below w.heap.size w w14 := bl_tr (by repeat (first | with_reducible assumption | with_reducible exact bl_refl _ | with_reducible refine bl_al ?_ _ | with_reducible refine bl_dr ?_)) hb14
  have kc4_14 : Below w4.heap.size w4 w14 := bl_tr (by repeat (first | with_reducible assumption | with_reducible exact bl_refl _ | with_reducible refine bl_al ?_ _ | with_reducible refine bl_dr ?_)) hb14
  have kc5_14 : Below w5.heap.size w5 w14 := bl_tr (by repeat (first | with_reducible assumption | with_reducible exact bl_refl _ | with_reducible refine bl_al ?_ _ | with_reducible refine bl_dr ?_)) hb14
  have kc6_14 : Below w6.heap.size w6 w14 := bl_tr (by repeat (first | with_reducible assumption | with_reducible exact bl_refl _ | with_reducible refine bl_al ?_ _ | with_reducible refine bl_dr ?_)) hb14
  have kr8_14 : Below w8.heap.size w8 w14 := bl_tr (by repeat (first | with_reducible assumption | with_reducible exact bl_refl _ | with_reducible refine bl_al ?_ _ | with_reducible refine bl_dr ?_)) hb14
  have kc9_14 : Below w9.heap.size w9 w14 := bl_tr (by repeat (first | with_reducible assumption | with_reducible exact bl_refl _ | with_reducible refine bl_al ?_ _ | with_reducible refine bl_dr ?_)) hb14
  have kc10_14 : Below w10.heap.size w10 w14 := bl_tr (by repeat (first | with_reducible assumption | with_reducible exact bl_refl _ | with_reducible refine bl_al ?_ _ | with_reducible refine bl_dr ?_)) hb14
  have kc11_14 : Below w11.heap.size w11 w14 := bl_tr (by repeat (first | with_reducible assumption | with_reducible exact bl_refl _ | with_reducible refine bl_al ?_ _ | with_reducible refine bl_dr ?_)) hb14
  have kr13_14 : Below w13.heap.size w13 w14 := bl_tr (by repeat (first | with_reducible assumption | with_reducible exact bl_refl _ | with_reducible refine bl_al ?_ _ | with_reducible refine bl_dr ?_)) hb14
  have lb0_14 : w.heap.size < w14.heap.size := Nat.lt_of_lt_of_le (by go_simp) hb14.size
  have yb0_0_14 : w14.cell? ⟨w.heap.size, 0, none⟩ = some (.slice G n cg) := (hb14.cell (p := ⟨w.heap.size, 0, none⟩) (by go_simp)).trans (by go_simp)
  have yb0_1_14 : w14.cell? ⟨w.heap.size, 1, none⟩ = some (.slice T m ct) := (hb14.cell (p := ⟨w.heap.size, 1, none⟩) (by go_simp)).trans (by go_simp)
  have lb1_14 : w.heap.size + 1 < w14.heap.size := Nat.lt_of_lt_of_le (by go_simp) hb14.size
  have yb1_0_14 : w14.cell? ⟨w.heap.size + 1, 0, none⟩ = some (.slice A q ca) := (hb14.cell (p := ⟨w.heap.size + 1, 0, none⟩) (by go_simp)).trans (by go_simp)
  have lb2_14 : w.heap.size + 2 < w14.heap.size := Nat.lt_of_lt_of_le (by go_simp) hb14.size
  have yb2_0_14 : w14.cell? ⟨w.heap.size + 2, 0, none⟩ = some (.slice C nb cb) := (hb14.cell (p := ⟨w.heap.size + 2, 0, none⟩) (by go_simp)).trans (by go_simp)
  have lb3_14 : w.heap.size + 3 < w14.heap.size := Nat.lt_of_lt_of_le (by go_simp) hb14.size
  have yb3_0_14 : w14.cell? ⟨w.heap.size + 3, 0, none⟩ = some (.int .i64 dx) := (hb14.cell (p := ⟨w.heap.size + 3, 0, none⟩) (by go_simp)).trans (by go_simp)
  have yb3_1_14 : w14.cell? ⟨w.heap.size + 3, 1, none⟩ = some (.int .i64 dy) := (hb14.cell (p := ⟨w.heap.size + 3, 1, none⟩) (by go_simp)).trans (by go_simp)
  have lb4_14 : w9.heap.size < w14.heap.size := Nat.lt_of_lt_of_le (by go_simp) hb14.size
  have yb4_0_14 : w14.cell? ⟨w9.heap.size, 0, none⟩ = some (.slice G9 n n) := (hb14.cell (p := ⟨w9.heap.size, 0, none⟩) (by go_simp)).trans (by go_simp)
  have yb4_1_14 : w14.cell? ⟨w9.heap.size, 1, none⟩ = some (.slice T9 m m) := (hb14.cell (p := ⟨w9.heap.size, 1, none⟩) (by go_simp)).trans (by go_simp)
  have lb5_14 : w10.heap.size < w14.heap.size := Nat.lt_of_lt_of_le (by go_simp) hb14.size
  have yb5_0_14 : w14.cell? ⟨w10.heap.size, 0, none⟩ = some (.slice A10 q q) := (hb14.cell (p := ⟨w10.heap.size, 0, none⟩) (by go_simp)).trans (by go_simp)
  have lb6_14 : w11.heap.size < w14.heap.size := Nat.lt_of_lt_of_le (by go_simp) hb14.size
  have yb6_0_14 : w14.cell? ⟨w11.heap.size, 0, none⟩ = some (.slice A11 nb nb) := (hb14.cell (p := ⟨w11.heap.size, 0, none⟩) (by go_simp)).trans (by go_simp)
  clear yb6_0_13 lb6_13 yb5_0_13 lb5_13 yb4_1_13 yb4_0_13 lb4_13 yb3_1_13 yb3_0_13 lb3_13 yb2_0_13 lb2_13 yb1_0_13 lb1_13 yb0_1_13 yb0_0_13 lb0_13 kr13 kc11_13 kc10_13 kc9_13 kr8_13 kc6_13 kc5_13 kc4_13 kw_13 s14
  clear hb14
  have kc14 : Below w14.heap.size w14 w14 := bl_refl _
  have o14H := Lib.hid o14
  clear o14
  have p14H := Lib.hid p14
  clear p14
  with_reducible refine wpD_g (fun K hK => ?_)
  go_simp
  refine (eqTileSet_same _ _ _ _ _ _ _ _ _ _ gs ts _ (o9H.out.rd.below RGl.stable (by repeat (first | with_reducible assumption | with_reducible exact bl_refl _ | with_reducible refine bl_al ?_ _ | with_reducible refine bl_dr ?_))) (o14H.out.rd.below RGl.stable (by repeat (first | with_reducible assumption | with_reducible exact bl_refl _ | with_reducible refine bl_al ?_ _ | with_reducible refine bl_dr ?_))) (p9H.out.rdTi.below RTi.stable (by repeat (first | with_reducible assumption | with_reducible exact bl_refl _ | with_reducible refine bl_al ?_ _ | with_reducible refine bl_dr ?_))) (p14H.out.rdTi.below RTi.stable (by repeat (first | with_reducible assumption | with_reducible exact bl_refl _ | with_reducible refine bl_al ?_ _ | with_reducible refine bl_dr ?_))) (by omega) (by omega) htsH.out).mono ?_
  rintro e w15 ⟨rfl, hb15⟩
  refine ⟨_, rfl, hb15, hK _ _ ?_⟩
  clear hK K
  have s15 : w14.heap.size ≤ w15.heap.size := by have := hb15.size; (try simp at this); omega
  have s15H := Lib.hid s15
  have kw_15 : Below w.heap.size w w15 := bl_tr (by repeat (first | with_reducible assumption | with_reducible exact bl_refl _ | with_reducible refine bl_al ?_ _ | with_reducible refine bl_dr ?_)) hb15
  have kc4_15 : Below w4.heap.size w4 w15 := bl_tr (by repeat (first | with_reducible assumption | with_reducible exact bl_refl _ | with_reducible refine bl_al ?_ _ | with_reducible refine bl_dr ?_)) hb15
  have kc5_15 : Below w5.heap.size w5 w15 := bl_tr (by repeat (first | with_reducible assumption | with_reducible exact bl_refl _ | with_reducible refine bl_al ?_ _ | with_reducible refine bl_dr ?_)) hb15
  have kc6_15 : Below w6.heap.size w6 w15 := bl_tr (by repeat (first | with_reducible assumption | with_reducible exact bl_refl _ | with_reducible refine bl_al ?_ _ | with_reducible refine bl_dr ?_)) hb15
  have kr8_15 : Below w8.heap.size w8 w15 := bl_tr (by repeat (first | with_reducible assumption | with_reducible exact bl_refl _ | with_reducible refine bl_al ?_ _ | with_reducible refine bl_dr ?_)) hb15
  have kc9_15 : Below w9.heap.size w9 w15 := bl_tr (by repeat (first | with_reducible assumption | with_reducible exact bl_refl _ | with_reducible refine bl_al ?_ _ | with_reducible refine bl_dr ?_)) hb15
  have kc10_15 : Below w10.heap.size w10 w15 := bl_tr (by repeat (first | with_reducible assumption | with_reducible exact bl_refl _ | with_reducible refine bl_al ?_ _ | with_reducible refine bl_dr ?_)) hb15
  have kc11_15 : Below w11.heap.size w11 w15 := bl_tr (by repeat (first | with_reducible assumption | with_reducible exact bl_refl _ | with_reducible refine bl_al ?_ _ | with_reducible refine bl_dr ?_)) hb15
  have kr13_15 : Below w13.heap.size w13 w15 := bl_tr (by repeat (first | with_reducible assumption | with_reducible exact bl_refl _ | with_reducible refine bl_al ?_ _ | with_reducible refine bl_dr ?_)) hb15
  have kc14_15 : Below w14.heap.size w14 w15 := bl_tr (by repeat (first | with_reducible assumption | with_reducible exact bl_refl _ | with_reducible refine bl_al ?_ _ | with_reducible refine bl_dr ?_)) hb15
  have lb0_15 : w.heap.size < w15.heap.size := Nat.lt_of_lt_of_le (by go_simp) hb15.size
  have yb0_0_15 : w15.cell? ⟨w.heap.size, 0, none⟩ = some (.slice G n cg) := (hb15.cell (p := ⟨w.heap.size, 0, none⟩) (by go_simp)).trans (by go_simp)
  have yb0_1_15 : w15.cell? ⟨w.heap.size, 1, none⟩ = some (.slice T m ct) := (hb15.cell (p := ⟨w.heap.size, 1, none⟩) (by go_simp)).trans (by go_simp)
  have lb1_15 : w.heap.size + 1 < w15.heap.size := Nat.lt_of_lt_of_le (by go_simp) hb15.size
  have yb1_0_15 : w15.cell? ⟨w.heap.size + 1, 0, none⟩ = some (.slice A q ca) := (hb15.cell (p := ⟨w.heap.size + 1, 0, none⟩) (by go_simp)).trans (by go_simp)
  have lb2_15 : w.heap.size + 2 < w15.heap.size := Nat.lt_of_lt_of_le (by go_simp) hb15.size
  have yb2_0_15 : w15.cell? ⟨w.heap.size + 2, 0, none⟩ = some (.slice C nb cb) := (hb15.cell (p := ⟨w.heap.size + 2, 0, none⟩) (by go_simp)).trans (by go_simp)
  have lb3_15 : w.heap.size + 3 < w15.heap.size := Nat.lt_of_lt_of_le (by go_simp) hb15.size
  have yb3_0_15 : w15.cell? ⟨w.heap.size + 3, 0, none⟩ = some (.int .i64 dx) := (hb15.cell (p := ⟨w.heap.size + 3, 0, none⟩) (by go_simp)).trans (by go_simp)
  have yb3_1_15 : w15.cell? ⟨w.heap.size + 3, 1, none⟩ = some (.int .i64 dy) := (hb15.cell (p := ⟨w.heap.size + 3, 1, none⟩) (by go_simp)).trans (by go_simp)
  have lb4_15 : w9.heap.size < w15.heap.size := Nat.lt_of_lt_of_le (by go_simp) hb15.size
  have yb4_0_15 : w15.cell? ⟨w9.heap.size, 0, none⟩ = some (.slice G9 n n) := (hb15.cell (p := ⟨w9.heap.size, 0, none⟩) (by go_simp)).trans (by go_simp)
  have yb4_1_15 : w15.cell? ⟨w9.heap.size, 1, none⟩ = some (.slice T9 m m) := (hb15.cell (p := ⟨w9.heap.size, 1, none⟩) (by go_simp)).trans (by go_simp)
  have lb5_15 : w10.heap.size < w15.heap.size := Nat.lt_of_lt_of_le (by go_simp) hb15.size
  have yb5_0_15 : w15.cell? ⟨w10.heap.size, 0, none⟩ = some (.slice A10 q q) := (hb15.cell (p := ⟨w10.heap.size, 0, none⟩) (by go_simp)).trans (by go_simp)
  have lb6_15 : w11.heap.size < w15.heap.size := Nat.lt_of_lt_of_le (by go_simp) hb15.size
  have yb6_0_15 : w15.cell? ⟨w11.heap.size, 0, none⟩ = some (.slice A11 nb nb) := (hb15.cell (p := ⟨w11.heap.size, 0, none⟩) (by go_simp)).trans (by go_simp)
  clear yb6_0_14 lb6_14 yb5_0_14 lb5_14 yb4_1_14 yb4_0_14 lb4_14 yb3_1_14 yb3_0_14 lb3_14 yb2_0_14 lb2_14 yb1_0_14 lb1_14 yb0_1_14 yb0_0_14 lb0_14 kc14 kr13_14 kc11_14 kc10_14 kc9_14 kr8_14 kc6_14 kc5_14 kc4_14 kw_14 s15
  clear hb15
  repeat (first | ((with_reducible refine wpD_p (fun K hK => ?_)); go_simp; refine hK _ ?_; clear hK K) | ((with_reducible refine wpD_q (fun K hK => ?_)); go_simp; (first | refine hK _ ?_ | (go_bits; refine hK _ ?_) | (go_bits; go_simp; refine hK _ ?_)); clear hK K))
  with_reducible refine wpD_nil ?_
  go_wp2_with fail
  refine wp_region_ord [(0, .q), (1, .q), (2, .g), (3, .g), (4, .q)] (by kernel_rfl) (by kernel_rfl) ?_
  simp only [pick, List.filterMap_cons, List.filterMap_nil, List.getElem?_toArray, List.getElem?_cons_zero, List.getElem?_cons_succ, Option.map_some]
  repeat (first | ((with_reducible refine wpD_p (fun K hK => ?_)); go_simp; refine hK _ ?_; clear hK K) | ((with_reducible refine wpD_q (fun K hK => ?_)); go_simp; (first | refine hK _ ?_ | (go_bits; refine hK _ ?_) | (go_bits; go_simp; refine hK _ ?_)); clear hK K))
  with_reducible refine wpD_g (fun K hK => ?_)
  go_simp
  refine (toAssembly_any _ _ _ xs _ (hA.below RPl.stable (by repeat (first | with_reducible assumption | with_reducible exact bl_refl _ | with_reducible refine bl_al ?_ _ | with_reducible refine bl_dr ?_))) (by omega)).mono ?_
  rintro e w16 ⟨A16, rfl, o16, hb16⟩
  refine ⟨_, rfl, hb16, hK _ _ ?_⟩
  clear hK K
  have s16 : w15.heap.size ≤ w16.heap.size := by have := hb16.size; (try simp at this); omega
  have s16H := Lib.hid s16
  have kw_16 : Below w.heap.size w w16 := bl_tr (by repeat (first | with_reducible assumption | with_reducible exact bl_refl _ | with_reducible refine bl_al ?_ _ | with_reducible refine bl_dr ?_)) hb16
  have kc4_16 : Below w4.heap.size w4 w16 := bl_tr (by repeat (first | with_reducible assumption | with_reducible exact bl_refl _ | with_reducible refine bl_al ?_ _ | with_reducible refine bl_dr ?_)) hb16
  have kc5_16 : Below w5.heap.size w5 w16 := bl_tr (by repeat (first | with_reducible assumption | with_reducible exact bl_refl _ | with_reducible refine bl_al ?_ _ | with_reducible refine bl_dr ?_)) hb16
  have kc6_16 : Below w6.heap.size w6 w16 := bl_tr (by repeat (first | with_reducible assumption | with_reducible exact bl_refl _ | with_reducible refine bl_al ?_ _ | with_reducible refine bl_dr ?_)) hb16
  have kr8_16 : Below w8.heap.size w8 w16 := bl_tr (by repeat (first | with_reducible assumption | with_reducible exact bl_refl _ | with_reducible refine bl_al ?_ _ | with_reducible refine bl_dr ?_)) hb16
  have kc9_16 : Below w9.heap.size w9 w16 := bl_tr (by repeat (first | with_reducible assumption | with_reducible exact bl_refl _ | with_reducible refine bl_al ?_ _ | with_reducible refine bl_dr ?_)) hb16
  have kc10_16 : Below w10.heap.size w10 w16 := bl_tr (by repeat (first | with_reducible assumption | with_reducible exact bl_refl _ | with_reducible refine bl_al ?_ _ | with_reducible refine bl_dr ?_)) hb16
  have kc11_16 : Below w11.heap.size w11 w16 := bl_tr (by repeat (first | with_reducible assumption | with_reducible exact bl_refl _ | with_reducible refine bl_al ?_ _ | with_reducible refine bl_dr ?_)) hb16
  have kr13_16 : Below w13.heap.size w13 w16 := bl_tr (by repeat (first | with_reducible assumption | with_reducible exact bl_refl _ | with_reducible refine bl_al ?_ _ | with_reducible refine bl_dr ?_)) hb16
  have kc14_16 : Below w14.heap.size w14 w16 := bl_tr (by repeat (first | with_reducible assumption | with_reducible exact bl_refl _ | with_reducible refine bl_al ?_ _ | with_reducible refine bl_dr ?_)) hb16
  have lb0_16 : w.heap.size < w16.heap.size := Nat.lt_of_lt_of_le (by go_simp) hb16.size
  have yb0_0_16 : w16.cell? ⟨w.heap.size, 0, none⟩ = some (.slice G n cg) := (hb16.cell (p := ⟨w.heap.size, 0, none⟩) (by go_simp)).trans (by go_simp)
  have yb0_1_16 : w16.cell? ⟨w.heap.size, 1, none⟩ = some (.slice T m ct) := (hb16.cell (p := ⟨w.heap.size, 1, none⟩) (by go_simp)).trans (by go_simp)
  have lb1_16 : w.heap.size + 1 < w16.heap.size := Nat.lt_of_lt_of_le (by go_simp) hb16.size
  have yb1_0_16 : w16.cell? ⟨w.heap.size + 1, 0, none⟩ = some (.slice A q ca) := (hb16.cell (p := ⟨w.heap.size + 1, 0, none⟩) (by go_simp)).trans (by go_simp)
  have lb2_16 : w.heap.size + 2 < w16.heap.size := Nat.lt_of_lt_of_le (by go_simp) hb16.size
  have yb2_0_16 : w16.cell? ⟨w.heap.size + 2, 0, none⟩ = some (.slice C nb cb) := (hb16.cell (p := ⟨w.heap.size + 2, 0, none⟩) (by go_simp)).trans (by go_simp)
  have lb3_16 : w.heap.size + 3 < w16.heap.size := Nat.lt_of_lt_of_le (by go_simp) hb16.size
  have yb3_0_16 : w16.cell? ⟨w.heap.size + 3, 0, none⟩ = some (.int .i64 dx) := (hb16.cell (p := ⟨w.heap.size + 3, 0, none⟩) (by go_simp)).trans (by go_simp)
  have yb3_1_16 : w16.cell? ⟨w.heap.size + 3, 1, none⟩ = some (.int .i64 dy) := (hb16.cell (p := ⟨w.heap.size + 3, 1, none⟩) (by go_simp)).trans (by go_simp)
  have lb4_16 : w9.heap.size < w16.heap.size := Nat.lt_of_lt_of_le (by go_simp) hb16.size
  have yb4_0_16 : w16.cell? ⟨w9.heap.size, 0, none⟩ = some (.slice G9 n n) := (hb16.cell (p := ⟨w9.heap.size, 0, none⟩) (by go_simp)).trans (by go_simp)
  have yb4_1_16 : w16.cell? ⟨w9.heap.size, 1, none⟩ = some (.slice T9 m m) := (hb16.cell (p := ⟨w9.heap.size, 1, none⟩) (by go_simp)).trans (by go_simp)
  have lb5_16 : w10.heap.size < w16.heap.size := Nat.lt_of_lt_of_le (by go_simp) hb16.size
  have yb5_0_16 : w16.cell? ⟨w10.heap.size, 0, none⟩ = some (.slice A10 q q) := (hb16.cell (p := ⟨w10.heap.size, 0, none⟩) (by go_simp)).trans (by go_simp)
  have lb6_16 : w11.heap.size < w16.heap.size := Nat.lt_of_lt_of_le (by go_simp) hb16.size
  have yb6_0_16 : w16.cell? ⟨w11.heap.size, 0, none⟩ = some (.slice A11 nb nb) := (hb16.cell (p := ⟨w11.heap.size, 0, none⟩) (by go_simp)).trans (by go_simp)
  clear yb6_0_15 lb6_15 yb5_0_15 lb5_15 yb4_1_15 yb4_0_15 lb4_15 yb3_1_15 yb3_0_15 lb3_15 yb2_0_15 lb2_15 yb1_0_15 lb1_15 yb0_1_15 yb0_0_15 lb0_15 kc14_15 kr13_15 kc11_15 kc10_15 kc9_15 kr8_15 kc6_15 kc5_15 kc4_15 kw_15 s16
  clear hb16
  have kc16 : Below w16.heap.size w16 w16 := bl_refl _
  have o16H := Lib.hid o16
  clear o16
  with_reducible refine wpD_g (fun K hK => ?_)
  go_simp
  refine (eqAssembly_same _ _ _ _ _ xs _ (o10H.out.rd.below RPl.stable (by repeat (first | with_reducible assumption | with_reducible exact bl_refl _ | with_reducible refine bl_al ?_ _ | with_reducible refine bl_dr ?_))) (o16H.out.rd.below RPl.stable (by repeat (first | with_reducible assumption | with_reducible exact bl_refl _ | with_reducible refine bl_al ?_ _ | with_reducible refine bl_dr ?_))) (by omega)).mono ?_
  rintro e w17 ⟨rfl, hb17⟩
  refine ⟨_, rfl, hb17, hK _ _ ?_⟩
  clear hK K
  have s17 : w16.heap.size ≤ w17.heap.size := by have := hb17.size; (try simp at this); omega
  have s17H := Lib.hid s17
  have kw_17 : Below w.heap.size w w17 := bl_tr (by repeat (first | with_reducible assumption | with_reducible exact bl_refl _ | with_reducible refine bl_al ?_ _ | with_reducible refine bl_dr ?_)) hb17
  have kc4_17 : Below w4.heap.size w4 w17 := bl_tr (by repeat (first | with_reducible assumption | with_reducible exact bl_refl _ | with_reducible refine bl_al ?_ _ | with_reducible refine bl_dr ?_)) hb17
  have kc5_17 : Below w5.heap.size w5 w17 := bl_tr (by repeat (first | with_reducible assumption | with_reducible exact bl_refl _ | with_reducible refine bl_al ?_ _ | with_reducible refine bl_dr ?_)) hb17
  have kc6_17 : Below w6.heap.size w6 w17 := bl_tr (by repeat (first | with_reducible assumption | with_reducible exact bl_refl _ | with_reducible refine bl_al ?_ _ | with_reducible refine bl_dr ?_)) hb17
  have kr8_17 : Below w8.heap.size w8 w17 := bl_tr (by repeat (first | with_reducible assumption | with_reducible exact bl_refl _ | with_reducible refine bl_al ?_ _ | with_reducible refine bl_dr ?_)) hb17
  have kc9_17 : Below w9.heap.size w9 w17 := bl_tr (by repeat (first | with_reducible assumption | with_reducible exact bl_refl _ | with_reducible refine bl_al ?_ _ | with_reducible refine bl_dr ?_)) hb17
  have kc10_17 : Below w10.heap.size w10 w17 := bl_tr (by repeat (first | with_reducible assumption | with_reducible exact bl_refl _ | with_reducible refine bl_al ?_ _ | with_reducible refine bl_dr ?_)) hb17
  have kc11_17 : Below w11.heap.size w11 w17 := bl_tr (by repeat (first | with_reducible assumption | with_reducible exact bl_refl _ | with_reducible refine bl_al ?_ _ | with_reducible refine bl_dr ?_)) hb17
  have kr13_17 : Below w13.heap.size w13 w17 := bl_tr (by repeat (first | with_reducible assumption | with_reducible exact bl_refl _ | with_reducible refine bl_al ?_ _ | with_reducible refine bl_dr ?_)) hb17
  have kc14_17 : Below w14.heap.size w14 w17 := bl_tr (by repeat (first | with_reducible assumption | with_reducible exact bl_refl _ | with_reducible refine bl_al ?_ _ | with_reducible refine bl_dr ?_)) hb17
  have kc16_17 : Below w16.heap.size w16 w17 := bl_tr (by repeat (first | with_reducible assumption | with_reducible exact bl_refl _ | with_reducible refine bl_al ?_ _ | with_reducible refine bl_dr ?_)) hb17
  have lb0_17 : w.heap.size < w17.heap.size := Nat.lt_of_lt_of_le (by go_simp) hb17.size
  have yb0_0_17 : w17.cell? ⟨w.heap.size, 0, none⟩ = some (.slice G n cg) := (hb17.cell (p := ⟨w.heap.size, 0, none⟩) (by go_simp)).trans (by go_simp)
  have yb0_1_17 : w17.cell? ⟨w.heap.size, 1, none⟩ = some (.slice T m ct) := (hb17.cell (p := ⟨w.heap.size, 1, none⟩) (by go_simp)).trans (by go_simp)
  have lb1_17 : w.heap.size + 1 < w17.heap.size := Nat.lt_of_lt_of_le (by go_simp) hb17.size
  have yb1_0_17 : w17.cell? ⟨w.heap.size + 1, 0, none⟩ = some (.slice A q ca) := (hb17.cell (p := ⟨w.heap.size + 1, 0, none⟩) (by go_simp)).trans (by go_simp)
  have lb2_17 : w.heap.size + 2 < w17.heap.size := Nat.lt_of_lt_of_le (by go_simp) hb17.size
  have yb2_0_17 : w17.cell? ⟨w.heap.size + 2, 0, none⟩ = some (.slice C nb cb) := (hb17.cell (p := ⟨w.heap.size + 2, 0, none⟩) (by go_simp)).trans (by go_simp)
  have lb3_17 : w.heap.size + 3 < w17.heap.size := Nat.lt_of_lt_of_le (by go_simp) hb17.size
  have yb3_0_17 : w17.cell? ⟨w.heap.size + 3, 0, none⟩ = some (.int .i64 dx) := (hb17.cell (p := ⟨w.heap.size + 3, 0, none⟩) (by go_simp)).trans (by go_simp)
  have yb3_1_17 : w17.cell? ⟨w.heap.size + 3, 1, none⟩ = some (.int .i64 dy) := (hb17.cell (p := ⟨w.heap.size + 3, 1, none⟩) (by go_simp)).trans (by go_simp)
  have lb4_17 : w9.heap.size < w17.heap.size := Nat.lt_of_lt_of_le (by go_simp) hb17.size
  have yb4_0_17 : w17.cell? ⟨w9.heap.size, 0, none⟩ = some (.slice G9 n n) := (hb17.cell (p := ⟨w9.heap.size, 0, none⟩) (by go_simp)).trans (by go_simp)
  have yb4_1_17 : w17.cell? ⟨w9.heap.size, 1, none⟩ = some (.slice T9 m m) := (hb17.cell (p := ⟨w9.heap.size, 1, none⟩) (by go_simp)).trans (by go_simp)
  have lb5_17 : w10.heap.size < w17.heap.size := Nat.lt_of_lt_of_le (by go_simp) hb17.size
  have yb5_0_17 : w17.cell? ⟨w10.heap.size, 0, none⟩ = some (.slice A10 q q) := (hb17.cell (p := ⟨w10.heap.size, 0, none⟩) (by go_simp)).trans (by go_simp)
  have lb6_17 : w11.heap.size < w17.heap.size := Nat.lt_of_lt_of_le (by go_simp) hb17.size
  have yb6_0_17 : w17.cell? ⟨w11.heap.size, 0, none⟩ = some (.slice A11 nb nb) := (hb17.cell (p := ⟨w11.heap.size, 0, none⟩) (by go_simp)).trans (by go_simp)
  clear yb6_0_16 lb6_16 yb5_0_16 lb5_16 yb4_1_16 yb4_0_16 lb4_16 yb3_1_16 yb3_0_16 lb3_16 yb2_0_16 lb2_16 yb1_0_16 lb1_16 yb0_1_16 yb0_0_16 lb0_16 kc16 kc14_16 kr13_16 kc11_16 kc10_16 kc9_16 kr8_16 kc6_16 kc5_16 kc4_16 kw_16 s17
  clear hb17
  repeat (first | ((with_reducible refine wpD_p (fun K hK => ?_)); go_simp; refine hK _ ?_; clear hK K) | ((with_reducible refine wpD_q (fun K hK => ?_)); go_simp; (first | refine hK _ ?_ | (go_bits; refine hK _ ?_) | (go_bits; go_simp; refine hK _ ?_)); clear hK K))
  with_reducible refine wpD_nil ?_
  go_wp2_with fail
  refine wp_region_ord [(0, .q), (1, .q), (2, .g), (3, .g), (4, .q)] (by kernel_rfl) (by kernel_rfl) ?_
  simp only [pick, List.filterMap_cons, List.filterMap_nil, List.getElem?_toArray, List.getElem?_cons_zero, List.getElem?_cons_succ, Option.map_some]
  repeat (first | ((with_reducible refine wpD_p (fun K hK => ?_)); go_simp; refine hK _ ?_; clear hK K) | ((with_reducible refine wpD_q (fun K hK => ?_)); go_simp; (first | refine hK _ ?_ | (go_bits; refine hK _ ?_) | (go_bits; go_simp; refine hK _ ?_)); clear hK K))
  with_reducible refine wpD_g (fun K hK => ?_)
  go_simp
  refine (toAssembly_any _ _ _ ys _ (hC.below RPl.stable (by repeat (first | with_reducible assumption | with_reducible exact bl_refl _ | with_reducible refine bl_al ?_ _ | with_reducible refine bl_dr ?_))) (by omega)).mono ?_
  rintro e w18 ⟨A18, rfl, o18, hb18⟩
  refine ⟨_, rfl, hb18, hK _ _ ?_⟩
  clear hK K
  have s18 : w17.heap.size ≤ w18.heap.size := by have := hb18.size; (try simp at this); omega
  have s18H := Lib.hid s18
  have kw_18 : Below w.heap.size w w18 := bl_tr (by repeat (first | with_reducible assumption | with_reducible exact bl_refl _ | with_reducible refine bl_al ?_ _ | with_reducible refine bl_dr ?_)) hb18
  have kc4_18 : Below w4.heap.size w4 w18 := bl_tr (by repeat (first | with_reducible assumption | with_reducible exact bl_refl _ | with_reducible refine bl_al ?_ _ | with_reducible refine bl_dr ?_)) hb18
  have kc5_18 : Below w5.heap.size w5 w18 := bl_tr (by repeat (first | with_reducible assumption | with_reducible exact bl_refl _ | with_reducible refine bl_al ?_ _ | with_reducible refine bl_dr ?_)) hb18
  have kc6_18 : Below w6.heap.size w6 w18 := bl_tr (by repeat (first | with_reducible assumption | with_reducible exact bl_refl _ | with_reducible refine bl_al ?_ _ | with_reducible refine bl_dr ?_)) hb18
  have kr8_18 : Below w8.heap.size w8 w18 := bl_tr (by repeat (first | with_reducible assumption | with_reducible exact bl_refl _ | with_reducible refine bl_al ?_ _ | with_reducible refine bl_dr ?_)) hb18
  have kc9_18 : Below w9.heap.size w9 w18 := bl_tr (by repeat (first | with_reducible assumption | with_reducible exact bl_refl _ | with_reducible refine bl_al ?_ _ | with_reducible refine bl_dr ?_)) hb18
  have kc10_18 : Below w10.heap.size w10 w18 := bl_tr (by repeat (first | with_reducible assumption | with_reducible exact bl_refl _ | with_reducible refine bl_al ?_ _ | with_reducible refine bl_dr ?_)) hb18
  have kc11_18 : Below w11.heap.size w11 w18 := bl_tr (by repeat (first | with_reducible assumption | with_reducible exact bl_refl _ | with_reducible refine bl_al ?_ _ | with_reducible refine bl_dr ?_)) hb18
  have kr13_18 : Below w13.heap.size w13 w18 := bl_tr (by repeat (first | with_reducible assumption | with_reducible exact bl_refl _ | with_reducible refine bl_al ?_ _ | with_reducible refine bl_dr ?_)) hb18
  have kc14_18 : Below w14.heap.size w14 w18 := bl_tr (by repeat (first | with_reducible assumption | with_reducible exact bl_refl _ | with_reducible refine bl_al ?_ _ | with_reducible refine bl_dr ?_)) hb18
  have kc16_18 : Below w16.heap.size w16 w18 := bl_tr (by repeat (first | with_reducible assumption | with_reducible exact bl_refl _ | with_reducible refine bl_al ?_ _ | with_reducible refine bl_dr ?_)) hb18
  have lb0_18 : w.heap.size < w18.heap.size := Nat.lt_of_lt_of_le (by go_simp) hb18.size
  have yb0_0_18 : w18.cell? ⟨w.heap.size, 0, none⟩ = some (.slice G n cg) := (hb18.cell (p := ⟨w.heap.size, 0, none⟩) (by go_simp)).trans (by go_simp)
  have yb0_1_18 : w18.cell? ⟨w.heap.size, 1, none⟩ = some (.slice T m ct) := (hb18.cell (p := ⟨w.heap.size, 1, none⟩) (by go_simp)).trans (by go_simp)
  have lb1_18 : w.heap.size + 1 < w18.heap.size := Nat.lt_of_lt_of_le (by go_simp) hb18.size
  have yb1_0_18 : w18.cell? ⟨w.heap.size + 1, 0, none⟩ = some (.slice A q ca) := (hb18.cell (p := ⟨w.heap.size + 1, 0, none⟩) (by go_simp)).trans (by go_simp)
  have lb2_18 : w.heap.size + 2 < w18.heap.size := Nat.lt_of_lt_of_le (by go_simp) hb18.size
  have yb2_0_18 : w18.cell? ⟨w.heap.size + 2, 0, none⟩ = some (.slice C nb cb) := (hb18.cell (p := ⟨w.heap.size + 2, 0, none⟩) (by go_simp)).trans (by go_simp)
  have lb3_18 : w.heap.size + 3 < w18.heap.size := Nat.lt_of_lt_of_le (by go_simp) hb18.size
  have yb3_0_18 : w18.cell? ⟨w.heap.size + 3, 0, none⟩ = some (.int .i64 dx) := (hb18.cell (p := ⟨w.heap.size + 3, 0, none⟩) (by go_simp)).trans (by go_simp)
  have yb3_1_18 : w18.cell? ⟨w.heap.size + 3, 1, none⟩ = some (.int .i64 dy) := (hb18.cell (p := ⟨w.heap.size + 3, 1, none⟩) (by go_simp)).trans (by go_simp)
  have lb4_18 : w9.heap.size < w18.heap.size := Nat.lt_of_lt_of_le (by go_simp) hb18.size
  have yb4_0_18 : w18.cell? ⟨w9.heap.size, 0, none⟩ = some (.slice G9 n n) := (hb18.cell (p := ⟨w9.heap.size, 0, none⟩) (by go_simp)).trans (by go_simp)
  have yb4_1_18 : w18.cell? ⟨w9.heap.size, 1, none⟩ = some (.slice T9 m m) := (hb18.cell (p := ⟨w9.heap.size, 1, none⟩) (by go_simp)).trans (by go_simp)
  have lb5_18 : w10.heap.size < w18.heap.size := Nat.lt_of_lt_of_le (by go_simp) hb18.size
  have yb5_0_18 : w18.cell? ⟨w10.heap.size, 0, none⟩ = some (.slice A10 q q) := (hb18.cell (p := ⟨w10.heap.size, 0, none⟩) (by go_simp)).trans (by go_simp)
  have lb6_18 : w11.heap.size < w18.heap.size := Nat.lt_of_lt_of_le (by go_simp) hb18.size
  have yb6_0_18 : w18.cell? ⟨w11.heap.size, 0, none⟩ = some (.slice A11 nb nb) := (hb18.cell (p := ⟨w11.heap.size, 0, none⟩) (by go_simp)).trans (by go_simp)
  clear yb6_0_17 lb6_17 yb5_0_17 lb5_17 yb4_1_17 yb4_0_17 lb4_17 yb3_1_17 yb3_0_17 lb3_17 yb2_0_17 lb2_17 yb1_0_17 lb1_17 yb0_1_17 yb0_0_17 lb0_17 kc16_17 kc14_17 kr13_17 kc11_17 kc10_17 kc9_17 kr8_17 kc6_17 kc5_17 kc4_17 kw_17 s18
  clear hb18
  have kc18 : Below w18.heap.size w18 w18 := bl_refl _
  have o18H := Lib.hid o18
  clear o18
  with_reducible refine wpD_g (fun K hK => ?_)
  go_simp
  refine (eqAssembly_same _ _ _ _ _ ys _ (o11H.out.rd.below RPl.stable (by repeat (first | with_reducible assumption | with_reducible exact bl_refl _ | with_reducible refine bl_al ?_ _ | with_reducible refine bl_dr ?_))) (o18H.out.rd.below RPl.stable (by repeat (first | with_reducible assumption | with_reducible exact bl_refl _ | with_reducible refine bl_al ?_ _ | with_reducible refine bl_dr ?_))) (by omega)).mono ?_
  rintro e w19 ⟨rfl, hb19⟩
  refine ⟨_, rfl, hb19, hK _ _ ?_⟩
  clear hK K
  have s19 : w18.heap.size ≤ w19.heap.size := by have := hb19.size; (try simp at this); omega
  have s19H := Lib.hid s19
  have kw_19 : Below w.heap.size w w19 := bl_tr (by repeat (first | with_reducible assumption | with_reducible exact bl_refl _ | with_reducible refine bl_al ?_ _ | with_reducible refine bl_dr ?_)) hb19
  have kc4_19 : Below w4.heap.size w4 w19 := bl_tr (by repeat (first | with_reducible assumption | with_reducible exact bl_refl _ | with_reducible refine bl_al ?_ _ | with_reducible refine bl_dr ?_)) hb19
  have kc5_19 : Below w5.heap.size w5 w19 := bl_tr (by repeat (first | with_reducible assumption | with_reducible exact bl_refl _ | with_reducible refine bl_al ?_ _ | with_reducible refine bl_dr ?_)) hb19
  have kc6_19 : Below w6.heap.size w6 w19 := bl_tr (by repeat (first | with_reducible assumption | with_reducible exact bl_refl _ | with_reducible refine bl_al ?_ _ | with_reducible refine bl_dr ?_)) hb19
  have kr8_19 : Below w8.heap.size w8 w19 := bl_tr (by repeat (first | with_reducible assumption | with_reducible exact bl_refl _ | with_reducible refine bl_al ?_ _ | with_reducible refine bl_dr ?_)) hb19
  have kc9_19 : Below w9.heap.size w9 w19 := bl_tr (by repeat (first | with_reducible assumption | with_reducible exact bl_refl _ | with_reducible refine bl_al ?_ _ | with_reducible refine bl_dr ?_)) hb19
  have kc10_19 : Below w10.heap.size w10 w19 := bl_tr (by repeat (first | with_reducible assumption | with_reducible exact bl_refl _ | with_reducible refine bl_al ?_ _ | with_reducible refine bl_dr ?_)) hb19
  have kc11_19 : Below w11.heap.size w11 w19 := bl_tr (by repeat (first | with_reducible assumption | with_reducible exact bl_refl _ | with_reducible refine bl_al ?_ _ | with_reducible refine bl_dr ?_)) hb19
  have kr13_19 : Below w13.heap.size w13 w19 := bl_tr (by repeat (first | with_reducible assumption | with_reducible exact bl_refl _ | with_reducible refine bl_al ?_ _ | with_reducible refine bl_dr ?_)) hb19
  have kc14_19 : Below w14.heap.size w14 w19 := bl_tr (by repeat (first | with_reducible assumption | with_reducible exact bl_refl _ | with_reducible refine bl_al ?_ _ | with_reducible refine bl_dr ?_)) hb19
  have kc16_19 : Below w16.heap.size w16 w19 := bl_tr (by repeat (first | with_reducible assumption | with_reducible exact bl_refl _ | with_reducible refine bl_al ?_ _ | with_reducible refine bl_dr ?_)) hb19
  have kc18_19 : Below w18.heap.size w18 w19 := bl_tr (by repeat (first | with_reducible assumption | with_reducible exact bl_refl _ | with_reducible refine bl_al ?_ _ | with_reducible refine bl_dr ?_)) hb19
  have lb0_19 : w.heap.size < w19.heap.size := Nat.lt_of_lt_of_le (by go_simp) hb19.size
  have yb0_0_19 : w19.cell? ⟨w.heap.size, 0, none⟩ = some (.slice G n cg) := (hb19.cell (p := ⟨w.heap.size, 0, none⟩) (by go_simp)).trans (by go_simp)
  have yb0_1_19 : w19.cell? ⟨w.heap.size, 1, none⟩ = some (.slice T m ct) := (hb19.cell (p := ⟨w.heap.size, 1, none⟩) (by go_simp)).trans (by go_simp)
  have lb1_19 : w.heap.size + 1 < w19.heap.size := Nat.lt_of_lt_of_le (by go_simp) hb19.size
  have yb1_0_19 : w19.cell? ⟨w.heap.size + 1, 0, none⟩ = some (.slice A q ca) := (hb19.cell (p := ⟨w.heap.size + 1, 0, none⟩) (by go_simp)).trans (by go_simp)
  have lb2_19 : w.heap.size + 2 < w19.heap.size := Nat.lt_of_lt_of_le (by go_simp) hb19.size
  have yb2_0_19 : w19.cell? ⟨w.heap.size + 2, 0, none⟩ = some (.slice C nb cb) := (hb19.cell (p := ⟨w.heap.size + 2, 0, none⟩) (by go_simp)).trans (by go_simp)
  have lb3_19 : w.heap.size + 3 < w19.heap.size := Nat.lt_of_lt_of_le (by go_simp) hb19.size
  have yb3_0_19 : w19.cell? ⟨w.heap.size + 3, 0, none⟩ = some (.int .i64 dx) := (hb19.cell (p := ⟨w.heap.size + 3, 0, none⟩) (by go_simp)).trans (by go_simp)
  have yb3_1_19 : w19.cell? ⟨w.heap.size + 3, 1, none⟩ = some (.int .i64 dy) := (hb19.cell (p := ⟨w.heap.size + 3, 1, none⟩) (by go_simp)).trans (by go_simp)
  have lb4_19 : w9.heap.size < w19.heap.size := Nat.lt_of_lt_of_le (by go_simp) hb19.size
  have yb4_0_19 : w19.cell? ⟨w9.heap.size, 0, none⟩ = some (.slice G9 n n) := (hb19.cell (p := ⟨w9.heap.size, 0, none⟩) (by go_simp)).trans (by go_simp)
  have yb4_1_19 : w19.cell? ⟨w9.heap.size, 1, none⟩ = some (.slice T9 m m) := (hb19.cell (p := ⟨w9.heap.size, 1, none⟩) (by go_simp)).trans (by go_simp)
  have lb5_19 : w10.heap.size < w19.heap.size := Nat.lt_of_lt_of_le (by go_simp) hb19.size
  have yb5_0_19 : w19.cell? ⟨w10.heap.size, 0, none⟩ = some (.slice A10 q q) := (hb19.cell (p := ⟨w10.heap.size, 0, none⟩) (by go_simp)).trans (by go_simp)
  have lb6_19 : w11.heap.size < w19.heap.size := Nat.lt_of_lt_of_le (by go_simp) hb19.size
  have yb6_0_19 : w19.cell? ⟨w11.heap.size, 0, none⟩ = some (.slice A11 nb nb) := (hb19.cell (p := ⟨w11.heap.size, 0, none⟩) (by go_simp)).trans (by go_simp)
  clear yb6_0_18 lb6_18 yb5_0_18 lb5_18 yb4_1_18 yb4_0_18 lb4_18 yb3_1_18 yb3_0_18 lb3_18 yb2_0_18 lb2_18 yb1_0_18 lb1_18 yb0_1_18 yb0_0_18 lb0_18 kc18 kc16_18 kc14_18 kr13_18 kc11_18 kc10_18 kc9_18 kr8_18 kc6_18 kc5_18 kc4_18 kw_18 s19
  clear hb19
  repeat (first | ((with_reducible refine wpD_p (fun K hK => ?_)); go_simp; refine hK _ ?_; clear hK K) | ((with_reducible refine wpD_q (fun K hK => ?_)); go_simp; (first | refine hK _ ?_ | (go_bits; refine hK _ ?_) | (go_bits; go_simp; refine hK _ ?_)); clear hK K))
  with_reducible refine wpD_nil ?_
  go_wp2_with fail
  go_ret
  exact ⟨rfl, (by repeat (first | with_reducible assumption | with_reducible exact bl_refl _ | with_reducible refine bl_al ?_ _ | with_reducible refine bl_dr ?_))⟩
end Go.Proofs.Ytfabgnnpgepcoaa
