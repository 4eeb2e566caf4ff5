/- Walk: the law FnExactCombine. -/
import Derived.Test.YtedihnokcpnikaaGreatKV
import Derived.Test.YtedihnokcpnikaaGreatHAsm
import Derived.Test.YtedihnokcpnikaaGreatOrdFl
import Derived.Test.YtedihnokcpnikaaGreatOwnFl
import Derived.Test.YtedihnokcpnikaaGreatMkE
import Derived.Test.YtedihnokcpnikaaGreatHEq
import Derived.Test.YtedihnokcpnikaaGreatHSz
import Derived.Test.YtedihnokcpnikaaGreatKH
namespace Go.Proofs.YtedihnokcpnikaaGreat
open Go.RowKit
set_option linter.unusedSimpArgs false
set_option linter.unusedVariables false
attribute [local go_sem] BelowBy.cell BelowBy.cell_drew stillUpon givesUpon BelowBy.cell_drew2 BelowBy.cell_drew3

set_option maxRecDepth 100000 in
set_option maxHeartbeats 4000000 in
theorem FnExactCombine_any (G : Option Addr) (n cg : Nat) (gs : List Gl) (T : Option Addr) (m ct : Nat) (ts : List Ti) (tt : Int) (A : Option Addr) (q ca : Nat) (xs : List Pl) (C : Option Addr) (nb cb : Nat) (ys : List Pl) (dx dy : Int) (w : World) (hG : RdSl 2 RGl w G n gs) (hT : RdSl 2 RTi w T m ts) (hln : n ≤ 9223372036854775807) (hlm : m ≤ 9223372036854775807) (hgn : ∀ e ∈ gs, e.name.size ≤ 9223372036854775807) (htn : ∀ e ∈ ts, e.name.size ≤ 9223372036854775807 ∧ e.sides.length ≤ 9223372036854775807)  (hA : RdSl 3 RPl w A q xs) (hlq : q ≤ 9223372036854775807) (hC : RdSl 3 RPl w C nb ys) (hlnb : nb ≤ 9223372036854775807) (hdx : -9223372036854775808 ≤ dx ∧ dx ≤ 9223372036854775807) (hdy : -9223372036854775808 ≤ dy ∧ dy ≤ 9223372036854775807) :
    Calls Tryz.prog 3 #[.agg #[.slice G n cg, .slice T m ct], .int .i64 tt, .agg #[.slice A q ca], .agg #[.slice C nb cb], .agg #[.int .i64 dx, .int .i64 dy]] w fun e w' => e = .returned (.bool true) ∧ Below w.heap.size w w' := by
  have hgnH := Lib.hid hgn
  have htnH := Lib.hid htn
  have hgk := Lib.hid (fun (k : Nat) (e : Gl) (h : gs[k]? = some e) => hgn e (List.mem_of_getElem? h))
  have htk := Lib.hid (fun (k : Nat) (e : Ti) (h : ts[k]? = some e) => htn e (List.mem_of_getElem? h))
  clear hgn htn
  have hRl := Lib.hid (combR_len gs ts xs ys tt dx dy)
  go_enter Tryz.func3, Tryz.ntmps3
  have kw := bl_refl w
  go_wp2_with fail
  refine (szTileSet_any _ _ _ _ _ _ gs ts _ _ (hG.below RGl.stable bk_) (hT.below RTi.stable bk_) (by omega) (by omega) hln hlm hgnH.out htnH.out).mono ?_
  rintro e w1 ⟨r1, rfl, (rfl | ⟨hr10, hr11, ⟨hzn, hx1⟩, hzm, hx2⟩), hb1⟩
  · go_wp2
    go_ret
    exact ⟨rfl, bl_tr bk_ hb1⟩
  have htsH := Lib.hid (show ∀ e ∈ ts, e.sides.length ≤ 1073741824 from fun e he => by have := (hx2 e he).2; omega)
  clear hx1 hx2
  have s1 : w.heap.size + 4 ≤ w1.heap.size := by have := hb1.size; (try simp at this); omega
  have s1H := Lib.hid s1
  have kw_1 : Below w.heap.size w w1 := bl_tr bk_ hb1
  have lb0_1 : w.heap.size < w1.heap.size := Nat.lt_of_lt_of_le (by go_simp) hb1.size
  have yb0_0_1 : w1.cell? ⟨w.heap.size, 0, none⟩ = some (.slice G n cg) := (hb1.cell (p := ⟨w.heap.size, 0, none⟩) (by go_simp)).trans (by go_simp)
  have yb0_1_1 : w1.cell? ⟨w.heap.size, 1, none⟩ = some (.slice T m ct) := (hb1.cell (p := ⟨w.heap.size, 1, none⟩) (by go_simp)).trans (by go_simp)
  have lb1_1 : w.heap.size + 1 < w1.heap.size := Nat.lt_of_lt_of_le (by go_simp) hb1.size
  have yb1_0_1 : w1.cell? ⟨w.heap.size + 1, 0, none⟩ = some (.slice A q ca) := (hb1.cell (p := ⟨w.heap.size + 1, 0, none⟩) (by go_simp)).trans (by go_simp)
  have lb2_1 : w.heap.size + 2 < w1.heap.size := Nat.lt_of_lt_of_le (by go_simp) hb1.size
  have yb2_0_1 : w1.cell? ⟨w.heap.size + 2, 0, none⟩ = some (.slice C nb cb) := (hb1.cell (p := ⟨w.heap.size + 2, 0, none⟩) (by go_simp)).trans (by go_simp)
  have lb3_1 : w.heap.size + 3 < w1.heap.size := Nat.lt_of_lt_of_le (by go_simp) hb1.size
  have yb3_0_1 : w1.cell? ⟨w.heap.size + 3, 0, none⟩ = some (.int .i64 dx) := (hb1.cell (p := ⟨w.heap.size + 3, 0, none⟩) (by go_simp)).trans (by go_simp)
  have yb3_1_1 : w1.cell? ⟨w.heap.size + 3, 1, none⟩ = some (.int .i64 dy) := (hb1.cell (p := ⟨w.heap.size + 3, 1, none⟩) (by go_simp)).trans (by go_simp)
  clear kw s1
  clear hb1
  go_wp2_with fail
  refine (szAssembly_any _ _ _ _ _ (by omega) (by omega) hlq).mono ?_
  rintro e w2 ⟨r2, rfl, (rfl | ⟨hr20, hr21, hzq⟩), hb2⟩
  · go_wp2
    go_ret
    exact ⟨rfl, bl_tr bk_ hb2⟩
  have s2 : w1.heap.size ≤ w2.heap.size := by have := hb2.size; (try simp at this); omega
  have s2H := Lib.hid s2
  have kw_2 : Below w.heap.size w w2 := bl_tr bk_ hb2
  have lb0_2 : w.heap.size < w2.heap.size := Nat.lt_of_lt_of_le (by go_simp) hb2.size
  have yb0_0_2 : w2.cell? ⟨w.heap.size, 0, none⟩ = some (.slice G n cg) := (hb2.cell (p := ⟨w.heap.size, 0, none⟩) (by go_simp)).trans (by go_simp)
  have yb0_1_2 : w2.cell? ⟨w.heap.size, 1, none⟩ = some (.slice T m ct) := (hb2.cell (p := ⟨w.heap.size, 1, none⟩) (by go_simp)).trans (by go_simp)
  have lb1_2 : w.heap.size + 1 < w2.heap.size := Nat.lt_of_lt_of_le (by go_simp) hb2.size
  have yb1_0_2 : w2.cell? ⟨w.heap.size + 1, 0, none⟩ = some (.slice A q ca) := (hb2.cell (p := ⟨w.heap.size + 1, 0, none⟩) (by go_simp)).trans (by go_simp)
  have lb2_2 : w.heap.size + 2 < w2.heap.size := Nat.lt_of_lt_of_le (by go_simp) hb2.size
  have yb2_0_2 : w2.cell? ⟨w.heap.size + 2, 0, none⟩ = some (.slice C nb cb) := (hb2.cell (p := ⟨w.heap.size + 2, 0, none⟩) (by go_simp)).trans (by go_simp)
  have lb3_2 : w.heap.size + 3 < w2.heap.size := Nat.lt_of_lt_of_le (by go_simp) hb2.size
  have yb3_0_2 : w2.cell? ⟨w.heap.size + 3, 0, none⟩ = some (.int .i64 dx) := (hb2.cell (p := ⟨w.heap.size + 3, 0, none⟩) (by go_simp)).trans (by go_simp)
  have yb3_1_2 : w2.cell? ⟨w.heap.size + 3, 1, none⟩ = some (.int .i64 dy) := (hb2.cell (p := ⟨w.heap.size + 3, 1, none⟩) (by go_simp)).trans (by go_simp)
  clear yb3_1_1 yb3_0_1 lb3_1 yb2_0_1 lb2_1 yb1_0_1 lb1_1 yb0_1_1 yb0_0_1 lb0_1 kw_1 s2
  clear hb2
  go_wp2_with fail
  refine (szAssembly_any _ _ _ _ _ (by omega) (by omega) hlnb).mono ?_
  rintro e w3 ⟨r3, rfl, (rfl | ⟨hr30, hr31, hznb⟩), hb3⟩
  · go_wp2
    go_ret
    exact ⟨rfl, bl_tr bk_ hb3⟩
  have s3 : w2.heap.size ≤ w3.heap.size := by have := hb3.size; (try simp at this); omega
  have s3H := Lib.hid s3
  have kw_3 : Below w.heap.size w w3 := bl_tr bk_ hb3
  have lb0_3 : w.heap.size < w3.heap.size := Nat.lt_of_lt_of_le (by go_simp) hb3.size
  have yb0_0_3 : w3.cell? ⟨w.heap.size, 0, none⟩ = some (.slice G n cg) := (hb3.cell (p := ⟨w.heap.size, 0, none⟩) (by go_simp)).trans (by go_simp)
  have yb0_1_3 : w3.cell? ⟨w.heap.size, 1, none⟩ = some (.slice T m ct) := (hb3.cell (p := ⟨w.heap.size, 1, none⟩) (by go_simp)).trans (by go_simp)
  have lb1_3 : w.heap.size + 1 < w3.heap.size := Nat.lt_of_lt_of_le (by go_simp) hb3.size
  have yb1_0_3 : w3.cell? ⟨w.heap.size + 1, 0, none⟩ = some (.slice A q ca) := (hb3.cell (p := ⟨w.heap.size + 1, 0, none⟩) (by go_simp)).trans (by go_simp)
  have lb2_3 : w.heap.size + 2 < w3.heap.size := Nat.lt_of_lt_of_le (by go_simp) hb3.size
  have yb2_0_3 : w3.cell? ⟨w.heap.size + 2, 0, none⟩ = some (.slice C nb cb) := (hb3.cell (p := ⟨w.heap.size + 2, 0, none⟩) (by go_simp)).trans (by go_simp)
  have lb3_3 : w.heap.size + 3 < w3.heap.size := Nat.lt_of_lt_of_le (by go_simp) hb3.size
  have yb3_0_3 : w3.cell? ⟨w.heap.size + 3, 0, none⟩ = some (.int .i64 dx) := (hb3.cell (p := ⟨w.heap.size + 3, 0, none⟩) (by go_simp)).trans (by go_simp)
  have yb3_1_3 : w3.cell? ⟨w.heap.size + 3, 1, none⟩ = some (.int .i64 dy) := (hb3.cell (p := ⟨w.heap.size + 3, 1, none⟩) (by go_simp)).trans (by go_simp)
  clear yb3_1_2 yb3_0_2 lb3_2 yb2_0_2 lb2_2 yb1_0_2 lb1_2 yb0_1_2 yb0_0_2 lb0_2 kw_2 s3
  clear hb3
  have kR4 : Below w3.heap.size w3 w3 := bl_refl _
  go_wp2_with fail
  refine wp_region_fl 13 [(0, .q), (2, .q), (3, .q), (5, .q), (7, .q), (1, .g), (4, .g), (6, .g), (8, .g), (9, .g), (10, .q), (11, .q), (12, .p)] [(14, .b), (15, .q)] _ (Obj.cells #[.slice none 0 0] 35) (by kernel_rfl) (by kernel_rfl) (by kernel_rfl) (by kernel_rfl) rfl (fun a w => ⟨rfl, by unfold flPtr; go_simp⟩) ?_
  simp only [pick, List.filterMap_cons, List.filterMap_nil, List.getElem?_toArray, List.getElem?_cons_zero, List.getElem?_cons_succ, Option.map_some]
  repeat (first | ((with_reducible refine wpL_p (fun K hK => ?_)); go_simp; refine hK _ ?_; clear hK K) | ((with_reducible refine wpL_q (fun K hK => ?_)); go_simp; (first | refine hK _ ?_ | (go_bits; refine hK _ ?_) | (go_bits; go_simp; refine hK _ ?_)); clear hK K))
  with_reducible refine wpL_g rfl (fun K hK st5 w5u mv5 => ?_)
  have hu5 := mv5.below
  have fu5 := (FlAt.none (Obj.cells #[.slice none 0 0] 35) (World.drew _)).mv mv5
  have Hmv5 := Lib.hid mv5
  clear mv5
  have s4 : w3.heap.size ≤ w5u.heap.size := by have := hu5.size; (try simp at this); omega
  have s4H := Lib.hid s4
  have kw_4 : Below w.heap.size w w5u := bl_tr bk_ hu5
  have kR4_4 : Below w3.heap.size w3 w5u := bl_tr bk_ hu5
  have lb0_4 : w.heap.size < w5u.heap.size := Nat.lt_of_lt_of_le (by go_simp) hu5.size
  have yb0_0_4 : w5u.cell? ⟨w.heap.size, 0, none⟩ = some (.slice G n cg) := (hu5.cell (p := ⟨w.heap.size, 0, none⟩) (by go_simp)).trans (by go_simp)
  have yb0_1_4 : w5u.cell? ⟨w.heap.size, 1, none⟩ = some (.slice T m ct) := (hu5.cell (p := ⟨w.heap.size, 1, none⟩) (by go_simp)).trans (by go_simp)
  have lb1_4 : w.heap.size + 1 < w5u.heap.size := Nat.lt_of_lt_of_le (by go_simp) hu5.size
  have yb1_0_4 : w5u.cell? ⟨w.heap.size + 1, 0, none⟩ = some (.slice A q ca) := (hu5.cell (p := ⟨w.heap.size + 1, 0, none⟩) (by go_simp)).trans (by go_simp)
  have lb2_4 : w.heap.size + 2 < w5u.heap.size := Nat.lt_of_lt_of_le (by go_simp) hu5.size
  have yb2_0_4 : w5u.cell? ⟨w.heap.size + 2, 0, none⟩ = some (.slice C nb cb) := (hu5.cell (p := ⟨w.heap.size + 2, 0, none⟩) (by go_simp)).trans (by go_simp)
  have lb3_4 : w.heap.size + 3 < w5u.heap.size := Nat.lt_of_lt_of_le (by go_simp) hu5.size
  have yb3_0_4 : w5u.cell? ⟨w.heap.size + 3, 0, none⟩ = some (.int .i64 dx) := (hu5.cell (p := ⟨w.heap.size + 3, 0, none⟩) (by go_simp)).trans (by go_simp)
  have yb3_1_4 : w5u.cell? ⟨w.heap.size + 3, 1, none⟩ = some (.int .i64 dy) := (hu5.cell (p := ⟨w.heap.size + 3, 1, none⟩) (by go_simp)).trans (by go_simp)
  go_simp
  refine (toTileSet_any _ _ _ _ _ _ gs ts _ (hG.below RGl.stable bk_) (hT.below RTi.stable bk_) (by omega) (by omega) htsH.out).mono ?_
  rintro e w5 ⟨G5, T5, rfl, o5, p5, hb5⟩
  refine ⟨_, rfl, hb5, hK _ _ _ ?_⟩
  clear hK K
  have fd5 := fu5.below hb5
  have s5 : w5u.heap.size ≤ w5.heap.size := by have := hb5.size; (try simp at this); omega
  have s5H := Lib.hid s5
  have kw_5 : Below w.heap.size w w5 := bl_tr bk_ hb5
  have kR4_5 : Below w3.heap.size w3 w5 := bl_tr bk_ hb5
  have lb0_5 : w.heap.size < w5.heap.size := Nat.lt_of_lt_of_le (by go_simp) hb5.size
  have yb0_0_5 : w5.cell? ⟨w.heap.size, 0, none⟩ = some (.slice G n cg) := (hb5.cell (p := ⟨w.heap.size, 0, none⟩) (by go_simp)).trans (by go_simp)
  have yb0_1_5 : w5.cell? ⟨w.heap.size, 1, none⟩ = some (.slice T m ct) := (hb5.cell (p := ⟨w.heap.size, 1, none⟩) (by go_simp)).trans (by go_simp)
  have lb1_5 : w.heap.size + 1 < w5.heap.size := Nat.lt_of_lt_of_le (by go_simp) hb5.size
  have yb1_0_5 : w5.cell? ⟨w.heap.size + 1, 0, none⟩ = some (.slice A q ca) := (hb5.cell (p := ⟨w.heap.size + 1, 0, none⟩) (by go_simp)).trans (by go_simp)
  have lb2_5 : w.heap.size + 2 < w5.heap.size := Nat.lt_of_lt_of_le (by go_simp) hb5.size
  have yb2_0_5 : w5.cell? ⟨w.heap.size + 2, 0, none⟩ = some (.slice C nb cb) := (hb5.cell (p := ⟨w.heap.size + 2, 0, none⟩) (by go_simp)).trans (by go_simp)
  have lb3_5 : w.heap.size + 3 < w5.heap.size := Nat.lt_of_lt_of_le (by go_simp) hb5.size
  have yb3_0_5 : w5.cell? ⟨w.heap.size + 3, 0, none⟩ = some (.int .i64 dx) := (hb5.cell (p := ⟨w.heap.size + 3, 0, none⟩) (by go_simp)).trans (by go_simp)
  have yb3_1_5 : w5.cell? ⟨w.heap.size + 3, 1, none⟩ = some (.int .i64 dy) := (hb5.cell (p := ⟨w.heap.size + 3, 1, none⟩) (by go_simp)).trans (by go_simp)
  clear hb5
  have kc5 : Below w5.heap.size w5 w5 := bl_refl _
  have o5H := Lib.hid o5
  clear o5
  have p5H := Lib.hid p5
  clear p5
  with_reducible refine wpL_g rfl (fun K hK st6 w6u mv6 => ?_)
  have hu6 := mv6.below
  have fu6 := fd5.mv mv6
  have Hmv6 := Lib.hid mv6
  clear mv6
  have s6 : w5.heap.size ≤ w6u.heap.size := by have := hu6.size; (try simp at this); omega
  have s6H := Lib.hid s6
  have kw_6 : Below w.heap.size w w6u := bl_tr bk_ hu6
  have kR4_6 : Below w3.heap.size w3 w6u := bl_tr bk_ hu6
  have kc5_6 : Below w5.heap.size w5 w6u := bl_tr bk_ hu6
  have lb0_6 : w.heap.size < w6u.heap.size := Nat.lt_of_lt_of_le (by go_simp) hu6.size
  have yb0_0_6 : w6u.cell? ⟨w.heap.size, 0, none⟩ = some (.slice G n cg) := (hu6.cell (p := ⟨w.heap.size, 0, none⟩) (by go_simp)).trans (by go_simp)
  have yb0_1_6 : w6u.cell? ⟨w.heap.size, 1, none⟩ = some (.slice T m ct) := (hu6.cell (p := ⟨w.heap.size, 1, none⟩) (by go_simp)).trans (by go_simp)
  have lb1_6 : w.heap.size + 1 < w6u.heap.size := Nat.lt_of_lt_of_le (by go_simp) hu6.size
  have yb1_0_6 : w6u.cell? ⟨w.heap.size + 1, 0, none⟩ = some (.slice A q ca) := (hu6.cell (p := ⟨w.heap.size + 1, 0, none⟩) (by go_simp)).trans (by go_simp)
  have lb2_6 : w.heap.size + 2 < w6u.heap.size := Nat.lt_of_lt_of_le (by go_simp) hu6.size
  have yb2_0_6 : w6u.cell? ⟨w.heap.size + 2, 0, none⟩ = some (.slice C nb cb) := (hu6.cell (p := ⟨w.heap.size + 2, 0, none⟩) (by go_simp)).trans (by go_simp)
  have lb3_6 : w.heap.size + 3 < w6u.heap.size := Nat.lt_of_lt_of_le (by go_simp) hu6.size
  have yb3_0_6 : w6u.cell? ⟨w.heap.size + 3, 0, none⟩ = some (.int .i64 dx) := (hu6.cell (p := ⟨w.heap.size + 3, 0, none⟩) (by go_simp)).trans (by go_simp)
  have yb3_1_6 : w6u.cell? ⟨w.heap.size + 3, 1, none⟩ = some (.int .i64 dy) := (hu6.cell (p := ⟨w.heap.size + 3, 1, none⟩) (by go_simp)).trans (by go_simp)
  go_simp
  refine (toAssembly_any _ _ _ xs _ (hA.below RPl.stable bk_) (by omega)).mono ?_
  rintro e w6 ⟨A6, rfl, o6, hb6⟩
  refine ⟨_, rfl, hb6, hK _ _ _ ?_⟩
  clear hK K
  have fd6 := fu6.below hb6
  have s7 : w6u.heap.size ≤ w6.heap.size := by have := hb6.size; (try simp at this); omega
  have s7H := Lib.hid s7
  have kw_7 : Below w.heap.size w w6 := bl_tr bk_ hb6
  have kR4_7 : Below w3.heap.size w3 w6 := bl_tr bk_ hb6
  have kc5_7 : Below w5.heap.size w5 w6 := bl_tr bk_ hb6
  have lb0_7 : w.heap.size < w6.heap.size := Nat.lt_of_lt_of_le (by go_simp) hb6.size
  have yb0_0_7 : w6.cell? ⟨w.heap.size, 0, none⟩ = some (.slice G n cg) := (hb6.cell (p := ⟨w.heap.size, 0, none⟩) (by go_simp)).trans (by go_simp)
  have yb0_1_7 : w6.cell? ⟨w.heap.size, 1, none⟩ = some (.slice T m ct) := (hb6.cell (p := ⟨w.heap.size, 1, none⟩) (by go_simp)).trans (by go_simp)
  have lb1_7 : w.heap.size + 1 < w6.heap.size := Nat.lt_of_lt_of_le (by go_simp) hb6.size
  have yb1_0_7 : w6.cell? ⟨w.heap.size + 1, 0, none⟩ = some (.slice A q ca) := (hb6.cell (p := ⟨w.heap.size + 1, 0, none⟩) (by go_simp)).trans (by go_simp)
  have lb2_7 : w.heap.size + 2 < w6.heap.size := Nat.lt_of_lt_of_le (by go_simp) hb6.size
  have yb2_0_7 : w6.cell? ⟨w.heap.size + 2, 0, none⟩ = some (.slice C nb cb) := (hb6.cell (p := ⟨w.heap.size + 2, 0, none⟩) (by go_simp)).trans (by go_simp)
  have lb3_7 : w.heap.size + 3 < w6.heap.size := Nat.lt_of_lt_of_le (by go_simp) hb6.size
  have yb3_0_7 : w6.cell? ⟨w.heap.size + 3, 0, none⟩ = some (.int .i64 dx) := (hb6.cell (p := ⟨w.heap.size + 3, 0, none⟩) (by go_simp)).trans (by go_simp)
  have yb3_1_7 : w6.cell? ⟨w.heap.size + 3, 1, none⟩ = some (.int .i64 dy) := (hb6.cell (p := ⟨w.heap.size + 3, 1, none⟩) (by go_simp)).trans (by go_simp)
  clear hb6
  have kc6 : Below w6.heap.size w6 w6 := bl_refl _
  have o6H := Lib.hid o6
  clear o6
  with_reducible refine wpL_g rfl (fun K hK st7 w7u mv7 => ?_)
  have hu7 := mv7.below
  have fu7 := fd6.mv mv7
  have Hmv7 := Lib.hid mv7
  clear mv7
  have s8 : w6.heap.size ≤ w7u.heap.size := by have := hu7.size; (try simp at this); omega
  have s8H := Lib.hid s8
  have kw_8 : Below w.heap.size w w7u := bl_tr bk_ hu7
  have kR4_8 : Below w3.heap.size w3 w7u := bl_tr bk_ hu7
  have kc5_8 : Below w5.heap.size w5 w7u := bl_tr bk_ hu7
  have kc6_8 : Below w6.heap.size w6 w7u := bl_tr bk_ hu7
  have lb0_8 : w.heap.size < w7u.heap.size := Nat.lt_of_lt_of_le (by go_simp) hu7.size
  have yb0_0_8 : w7u.cell? ⟨w.heap.size, 0, none⟩ = some (.slice G n cg) := (hu7.cell (p := ⟨w.heap.size, 0, none⟩) (by go_simp)).trans (by go_simp)
  have yb0_1_8 : w7u.cell? ⟨w.heap.size, 1, none⟩ = some (.slice T m ct) := (hu7.cell (p := ⟨w.heap.size, 1, none⟩) (by go_simp)).trans (by go_simp)
  have lb1_8 : w.heap.size + 1 < w7u.heap.size := Nat.lt_of_lt_of_le (by go_simp) hu7.size
  have yb1_0_8 : w7u.cell? ⟨w.heap.size + 1, 0, none⟩ = some (.slice A q ca) := (hu7.cell (p := ⟨w.heap.size + 1, 0, none⟩) (by go_simp)).trans (by go_simp)
  have lb2_8 : w.heap.size + 2 < w7u.heap.size := Nat.lt_of_lt_of_le (by go_simp) hu7.size
  have yb2_0_8 : w7u.cell? ⟨w.heap.size + 2, 0, none⟩ = some (.slice C nb cb) := (hu7.cell (p := ⟨w.heap.size + 2, 0, none⟩) (by go_simp)).trans (by go_simp)
  have lb3_8 : w.heap.size + 3 < w7u.heap.size := Nat.lt_of_lt_of_le (by go_simp) hu7.size
  have yb3_0_8 : w7u.cell? ⟨w.heap.size + 3, 0, none⟩ = some (.int .i64 dx) := (hu7.cell (p := ⟨w.heap.size + 3, 0, none⟩) (by go_simp)).trans (by go_simp)
  have yb3_1_8 : w7u.cell? ⟨w.heap.size + 3, 1, none⟩ = some (.int .i64 dy) := (hu7.cell (p := ⟨w.heap.size + 3, 1, none⟩) (by go_simp)).trans (by go_simp)
  go_simp
  refine (toAssembly_any _ _ _ ys _ (hC.below RPl.stable bk_) (by omega)).mono ?_
  rintro e w7 ⟨A7, rfl, o7, hb7⟩
  refine ⟨_, rfl, hb7, hK _ _ _ ?_⟩
  clear hK K
  have fd7 := fu7.below hb7
  have s9 : w7u.heap.size ≤ w7.heap.size := by have := hb7.size; (try simp at this); omega
  have s9H := Lib.hid s9
  have kw_9 : Below w.heap.size w w7 := bl_tr bk_ hb7
  have kR4_9 : Below w3.heap.size w3 w7 := bl_tr bk_ hb7
  have kc5_9 : Below w5.heap.size w5 w7 := bl_tr bk_ hb7
  have kc6_9 : Below w6.heap.size w6 w7 := bl_tr bk_ hb7
  have lb0_9 : w.heap.size < w7.heap.size := Nat.lt_of_lt_of_le (by go_simp) hb7.size
  have yb0_0_9 : w7.cell? ⟨w.heap.size, 0, none⟩ = some (.slice G n cg) := (hb7.cell (p := ⟨w.heap.size, 0, none⟩) (by go_simp)).trans (by go_simp)
  have yb0_1_9 : w7.cell? ⟨w.heap.size, 1, none⟩ = some (.slice T m ct) := (hb7.cell (p := ⟨w.heap.size, 1, none⟩) (by go_simp)).trans (by go_simp)
  have lb1_9 : w.heap.size + 1 < w7.heap.size := Nat.lt_of_lt_of_le (by go_simp) hb7.size
  have yb1_0_9 : w7.cell? ⟨w.heap.size + 1, 0, none⟩ = some (.slice A q ca) := (hb7.cell (p := ⟨w.heap.size + 1, 0, none⟩) (by go_simp)).trans (by go_simp)
  have lb2_9 : w.heap.size + 2 < w7.heap.size := Nat.lt_of_lt_of_le (by go_simp) hb7.size
  have yb2_0_9 : w7.cell? ⟨w.heap.size + 2, 0, none⟩ = some (.slice C nb cb) := (hb7.cell (p := ⟨w.heap.size + 2, 0, none⟩) (by go_simp)).trans (by go_simp)
  have lb3_9 : w.heap.size + 3 < w7.heap.size := Nat.lt_of_lt_of_le (by go_simp) hb7.size
  have yb3_0_9 : w7.cell? ⟨w.heap.size + 3, 0, none⟩ = some (.int .i64 dx) := (hb7.cell (p := ⟨w.heap.size + 3, 0, none⟩) (by go_simp)).trans (by go_simp)
  have yb3_1_9 : w7.cell? ⟨w.heap.size + 3, 1, none⟩ = some (.int .i64 dy) := (hb7.cell (p := ⟨w.heap.size + 3, 1, none⟩) (by go_simp)).trans (by go_simp)
  clear hb7
  have kc7 : Below w7.heap.size w7 w7 := bl_refl _
  have o7H := Lib.hid o7
  clear o7
  with_reducible refine wpL_g rfl (fun K hK st8 w8u mv8 => ?_)
  have hu8 := mv8.below
  have fu8 := fd7.mv mv8
  have Hmv8 := Lib.hid mv8
  clear mv8
  have s10 : w7.heap.size ≤ w8u.heap.size := by have := hu8.size; (try simp at this); omega
  have s10H := Lib.hid s10
  have kw_10 : Below w.heap.size w w8u := bl_tr bk_ hu8
  have kR4_10 : Below w3.heap.size w3 w8u := bl_tr bk_ hu8
  have kc5_10 : Below w5.heap.size w5 w8u := bl_tr bk_ hu8
  have kc6_10 : Below w6.heap.size w6 w8u := bl_tr bk_ hu8
  have kc7_10 : Below w7.heap.size w7 w8u := bl_tr bk_ hu8
  have lb0_10 : w.heap.size < w8u.heap.size := Nat.lt_of_lt_of_le (by go_simp) hu8.size
  have yb0_0_10 : w8u.cell? ⟨w.heap.size, 0, none⟩ = some (.slice G n cg) := (hu8.cell (p := ⟨w.heap.size, 0, none⟩) (by go_simp)).trans (by go_simp)
  have yb0_1_10 : w8u.cell? ⟨w.heap.size, 1, none⟩ = some (.slice T m ct) := (hu8.cell (p := ⟨w.heap.size, 1, none⟩) (by go_simp)).trans (by go_simp)
  have lb1_10 : w.heap.size + 1 < w8u.heap.size := Nat.lt_of_lt_of_le (by go_simp) hu8.size
  have yb1_0_10 : w8u.cell? ⟨w.heap.size + 1, 0, none⟩ = some (.slice A q ca) := (hu8.cell (p := ⟨w.heap.size + 1, 0, none⟩) (by go_simp)).trans (by go_simp)
  have lb2_10 : w.heap.size + 2 < w8u.heap.size := Nat.lt_of_lt_of_le (by go_simp) hu8.size
  have yb2_0_10 : w8u.cell? ⟨w.heap.size + 2, 0, none⟩ = some (.slice C nb cb) := (hu8.cell (p := ⟨w.heap.size + 2, 0, none⟩) (by go_simp)).trans (by go_simp)
  have lb3_10 : w.heap.size + 3 < w8u.heap.size := Nat.lt_of_lt_of_le (by go_simp) hu8.size
  have yb3_0_10 : w8u.cell? ⟨w.heap.size + 3, 0, none⟩ = some (.int .i64 dx) := (hu8.cell (p := ⟨w.heap.size + 3, 0, none⟩) (by go_simp)).trans (by go_simp)
  have yb3_1_10 : w8u.cell? ⟨w.heap.size + 3, 1, none⟩ = some (.int .i64 dy) := (hu8.cell (p := ⟨w.heap.size + 3, 1, none⟩) (by go_simp)).trans (by go_simp)
  go_simp
  refine (toPoint_any _ _ _).mono ?_
  rintro e w8 ⟨rfl, hb8⟩
  refine ⟨_, rfl, hb8, hK _ _ _ ?_⟩
  clear hK K
  have fd8 := fu8.below hb8
  have s11 : w8u.heap.size ≤ w8.heap.size := by have := hb8.size; (try simp at this); omega
  have s11H := Lib.hid s11
  have kw_11 : Below w.heap.size w w8 := bl_tr bk_ hb8
  have kR4_11 : Below w3.heap.size w3 w8 := bl_tr bk_ hb8
  have kc5_11 : Below w5.heap.size w5 w8 := bl_tr bk_ hb8
  have kc6_11 : Below w6.heap.size w6 w8 := bl_tr bk_ hb8
  have kc7_11 : Below w7.heap.size w7 w8 := bl_tr bk_ hb8
  have lb0_11 : w.heap.size < w8.heap.size := Nat.lt_of_lt_of_le (by go_simp) hb8.size
  have yb0_0_11 : w8.cell? ⟨w.heap.size, 0, none⟩ = some (.slice G n cg) := (hb8.cell (p := ⟨w.heap.size, 0, none⟩) (by go_simp)).trans (by go_simp)
  have yb0_1_11 : w8.cell? ⟨w.heap.size, 1, none⟩ = some (.slice T m ct) := (hb8.cell (p := ⟨w.heap.size, 1, none⟩) (by go_simp)).trans (by go_simp)
  have lb1_11 : w.heap.size + 1 < w8.heap.size := Nat.lt_of_lt_of_le (by go_simp) hb8.size
  have yb1_0_11 : w8.cell? ⟨w.heap.size + 1, 0, none⟩ = some (.slice A q ca) := (hb8.cell (p := ⟨w.heap.size + 1, 0, none⟩) (by go_simp)).trans (by go_simp)
  have lb2_11 : w.heap.size + 2 < w8.heap.size := Nat.lt_of_lt_of_le (by go_simp) hb8.size
  have yb2_0_11 : w8.cell? ⟨w.heap.size + 2, 0, none⟩ = some (.slice C nb cb) := (hb8.cell (p := ⟨w.heap.size + 2, 0, none⟩) (by go_simp)).trans (by go_simp)
  have lb3_11 : w.heap.size + 3 < w8.heap.size := Nat.lt_of_lt_of_le (by go_simp) hb8.size
  have yb3_0_11 : w8.cell? ⟨w.heap.size + 3, 0, none⟩ = some (.int .i64 dx) := (hb8.cell (p := ⟨w.heap.size + 3, 0, none⟩) (by go_simp)).trans (by go_simp)
  have yb3_1_11 : w8.cell? ⟨w.heap.size + 3, 1, none⟩ = some (.int .i64 dy) := (hb8.cell (p := ⟨w.heap.size + 3, 1, none⟩) (by go_simp)).trans (by go_simp)
  clear hb8
  with_reducible refine wpL_g rfl (fun K hK st9 w9u mv9 => ?_)
  have hu9 := mv9.below
  have fu9 := fd8.mv mv9
  have Hmv9 := Lib.hid mv9
  clear mv9
  have s12 : w8.heap.size ≤ w9u.heap.size := by have := hu9.size; (try simp at this); omega
  have s12H := Lib.hid s12
  have kw_12 : Below w.heap.size w w9u := bl_tr bk_ hu9
  have kR4_12 : Below w3.heap.size w3 w9u := bl_tr bk_ hu9
  have kc5_12 : Below w5.heap.size w5 w9u := bl_tr bk_ hu9
  have kc6_12 : Below w6.heap.size w6 w9u := bl_tr bk_ hu9
  have kc7_12 : Below w7.heap.size w7 w9u := bl_tr bk_ hu9
  have lb0_12 : w.heap.size < w9u.heap.size := Nat.lt_of_lt_of_le (by go_simp) hu9.size
  have yb0_0_12 : w9u.cell? ⟨w.heap.size, 0, none⟩ = some (.slice G n cg) := (hu9.cell (p := ⟨w.heap.size, 0, none⟩) (by go_simp)).trans (by go_simp)
  have yb0_1_12 : w9u.cell? ⟨w.heap.size, 1, none⟩ = some (.slice T m ct) := (hu9.cell (p := ⟨w.heap.size, 1, none⟩) (by go_simp)).trans (by go_simp)
  have lb1_12 : w.heap.size + 1 < w9u.heap.size := Nat.lt_of_lt_of_le (by go_simp) hu9.size
  have yb1_0_12 : w9u.cell? ⟨w.heap.size + 1, 0, none⟩ = some (.slice A q ca) := (hu9.cell (p := ⟨w.heap.size + 1, 0, none⟩) (by go_simp)).trans (by go_simp)
  have lb2_12 : w.heap.size + 2 < w9u.heap.size := Nat.lt_of_lt_of_le (by go_simp) hu9.size
  have yb2_0_12 : w9u.cell? ⟨w.heap.size + 2, 0, none⟩ = some (.slice C nb cb) := (hu9.cell (p := ⟨w.heap.size + 2, 0, none⟩) (by go_simp)).trans (by go_simp)
  have lb3_12 : w.heap.size + 3 < w9u.heap.size := Nat.lt_of_lt_of_le (by go_simp) hu9.size
  have yb3_0_12 : w9u.cell? ⟨w.heap.size + 3, 0, none⟩ = some (.int .i64 dx) := (hu9.cell (p := ⟨w.heap.size + 3, 0, none⟩) (by go_simp)).trans (by go_simp)
  have yb3_1_12 : w9u.cell? ⟨w.heap.size + 3, 1, none⟩ = some (.int .i64 dy) := (hu9.cell (p := ⟨w.heap.size + 3, 1, none⟩) (by go_simp)).trans (by go_simp)
  go_simp
  refine (sCombine_any _ _ _ _ _ _ _ _ _ _ _ _ gs ts xs ys tt dx dy _ ⟨o5H.out.rd.below RGl.stable bk_, p5H.out.rdTi.below RTi.stable bk_, o6H.out.rd.below RPl.stable bk_, by omega, by omega, by omega, hgk.out, htk.out⟩ ⟨o5H.out.rd.below RGl.stable bk_, p5H.out.rdTi.below RTi.stable bk_, o7H.out.rd.below RPl.stable bk_, by omega, by omega, by omega, hgk.out, htk.out⟩).mono ?_
  rintro e w9 ⟨V9, c9, rfl, v9, hb9⟩
  refine ⟨_, rfl, hb9, hK _ _ _ ?_⟩
  clear hK K
  have fd9 := fu9.below hb9
  have s13 : w9u.heap.size ≤ w9.heap.size := by have := hb9.size; (try simp at this); omega
  have s13H := Lib.hid s13
  have kw_13 : Below w.heap.size w w9 := bl_tr bk_ hb9
  have kR4_13 : Below w3.heap.size w3 w9 := bl_tr bk_ hb9
  have kc5_13 : Below w5.heap.size w5 w9 := bl_tr bk_ hb9
  have kc6_13 : Below w6.heap.size w6 w9 := bl_tr bk_ hb9
  have kc7_13 : Below w7.heap.size w7 w9 := bl_tr bk_ hb9
  have lb0_13 : w.heap.size < w9.heap.size := Nat.lt_of_lt_of_le (by go_simp) hb9.size
  have yb0_0_13 : w9.cell? ⟨w.heap.size, 0, none⟩ = some (.slice G n cg) := (hb9.cell (p := ⟨w.heap.size, 0, none⟩) (by go_simp)).trans (by go_simp)
  have yb0_1_13 : w9.cell? ⟨w.heap.size, 1, none⟩ = some (.slice T m ct) := (hb9.cell (p := ⟨w.heap.size, 1, none⟩) (by go_simp)).trans (by go_simp)
  have lb1_13 : w.heap.size + 1 < w9.heap.size := Nat.lt_of_lt_of_le (by go_simp) hb9.size
  have yb1_0_13 : w9.cell? ⟨w.heap.size + 1, 0, none⟩ = some (.slice A q ca) := (hb9.cell (p := ⟨w.heap.size + 1, 0, none⟩) (by go_simp)).trans (by go_simp)
  have lb2_13 : w.heap.size + 2 < w9.heap.size := Nat.lt_of_lt_of_le (by go_simp) hb9.size
  have yb2_0_13 : w9.cell? ⟨w.heap.size + 2, 0, none⟩ = some (.slice C nb cb) := (hb9.cell (p := ⟨w.heap.size + 2, 0, none⟩) (by go_simp)).trans (by go_simp)
  have lb3_13 : w.heap.size + 3 < w9.heap.size := Nat.lt_of_lt_of_le (by go_simp) hb9.size
  have yb3_0_13 : w9.cell? ⟨w.heap.size + 3, 0, none⟩ = some (.int .i64 dx) := (hb9.cell (p := ⟨w.heap.size + 3, 0, none⟩) (by go_simp)).trans (by go_simp)
  have yb3_1_13 : w9.cell? ⟨w.heap.size + 3, 1, none⟩ = some (.int .i64 dy) := (hb9.cell (p := ⟨w.heap.size + 3, 1, none⟩) (by go_simp)).trans (by go_simp)
  clear hb9
  have kr9 : Below w9.heap.size w9 w9 := bl_refl _
  have v9H := Lib.hid v9
  clear v9
  repeat (first | ((with_reducible refine wpL_p (fun K hK => ?_)); go_simp; refine hK _ ?_; clear hK K) | ((with_reducible refine wpL_q (fun K hK => ?_)); go_simp; (first | refine hK _ ?_ | (go_bits; refine hK _ ?_) | (go_bits; go_simp; refine hK _ ?_)); clear hK K))
  with_reducible refine wpL_nil (fun bF4 w4f mvF => ?_)
  have huF := mvF.below
  obtain ⟨fl4, fb4⟩ := (fd9.mv mvF).2 _ rfl
  clear mvF
  have s14 : w9.heap.size ≤ w4f.heap.size := by have := huF.size; (try simp at this); omega
  have s14H := Lib.hid s14
  have kw_14 : Below w.heap.size w w4f := bl_tr bk_ huF
  have kR4_14 : Below w3.heap.size w3 w4f := bl_tr bk_ huF
  have kc5_14 : Below w5.heap.size w5 w4f := bl_tr bk_ huF
  have kc6_14 : Below w6.heap.size w6 w4f := bl_tr bk_ huF
  have kc7_14 : Below w7.heap.size w7 w4f := bl_tr bk_ huF
  have kr9_14 : Below w9.heap.size w9 w4f := bl_tr bk_ huF
  have lb0_14 : w.heap.size < w4f.heap.size := Nat.lt_of_lt_of_le (by go_simp) huF.size
  have yb0_0_14 : w4f.cell? ⟨w.heap.size, 0, none⟩ = some (.slice G n cg) := (huF.cell (p := ⟨w.heap.size, 0, none⟩) (by go_simp)).trans (by go_simp)
  have yb0_1_14 : w4f.cell? ⟨w.heap.size, 1, none⟩ = some (.slice T m ct) := (huF.cell (p := ⟨w.heap.size, 1, none⟩) (by go_simp)).trans (by go_simp)
  have lb1_14 : w.heap.size + 1 < w4f.heap.size := Nat.lt_of_lt_of_le (by go_simp) huF.size
  have yb1_0_14 : w4f.cell? ⟨w.heap.size + 1, 0, none⟩ = some (.slice A q ca) := (huF.cell (p := ⟨w.heap.size + 1, 0, none⟩) (by go_simp)).trans (by go_simp)
  have lb2_14 : w.heap.size + 2 < w4f.heap.size := Nat.lt_of_lt_of_le (by go_simp) huF.size
  have yb2_0_14 : w4f.cell? ⟨w.heap.size + 2, 0, none⟩ = some (.slice C nb cb) := (huF.cell (p := ⟨w.heap.size + 2, 0, none⟩) (by go_simp)).trans (by go_simp)
  have lb3_14 : w.heap.size + 3 < w4f.heap.size := Nat.lt_of_lt_of_le (by go_simp) huF.size
  have yb3_0_14 : w4f.cell? ⟨w.heap.size + 3, 0, none⟩ = some (.int .i64 dx) := (huF.cell (p := ⟨w.heap.size + 3, 0, none⟩) (by go_simp)).trans (by go_simp)
  have yb3_1_14 : w4f.cell? ⟨w.heap.size + 3, 1, none⟩ = some (.int .i64 dy) := (huF.cell (p := ⟨w.heap.size + 3, 1, none⟩) (by go_simp)).trans (by go_simp)
  simp only [World.size_drew] at fl4
  have rF : w4f.rowIs bF4 35 1 (fun i => (#[.slice none 0 0] : Array Value).getD i undef) := ⟨_, fb4, rfl, fun i hi => by simp [hi]⟩
  have yF0 := rF.cell (i := 0) (by decide)
  have kF0 := rF.frozen 0
  have rFH := Lib.hid rF
  clear rF
  have vF9_0 := ownsRow_below v9H.out kr9_14
  have vF9_0H := Lib.hid vF9_0
  clear vF9_0
  simp only [flPtr]
  with_reducible refine wpD_b (fun K hK => ?_)
  go_simp
  refine hK _ _ ?_
  clear hK K
  repeat (first | ((with_reducible refine wpD_p (fun K hK => ?_)); go_simp; refine hK _ ?_; clear hK K) | ((with_reducible refine wpD_q (fun K hK => ?_)); go_simp; (first | refine hK _ ?_ | (go_bits; refine hK _ ?_) | (go_bits; go_simp; refine hK _ ?_)); clear hK K))
  with_reducible refine wpD_nil ?_
  obtain ⟨w10, hV⟩ : ∃ V, V = (w4f.setCell ⟨bF4, 0, none⟩ (.slice V9 (combR gs ts xs ys tt dx dy).1.length c9)) := ⟨_, rfl⟩
  rw [← hV]
  have rV := (rFH.out.set 0 (.slice V9 (combR gs ts xs ys tt dx dy).1.length c9))
  have hb10 := (kR4_14.setCell (p := ⟨bF4, 0, none⟩) fl4 (.slice V9 (combR gs ts xs ys tt dx dy).1.length c9))
  rw [← hV] at rV hb10
  have yg4_0 : w10.cell? ⟨bF4, 0, none⟩ = some (.slice V9 (combR gs ts xs ys tt dx dy).1.length c9) := by rw [rV.cell (i := 0) (by decide)]; simp
  have lg4 := rV.lt
  have sF4H := Lib.hid lg4
  have vV9_0 := (ownsRow_setCell_other (a := ⟨bF4, 0, none⟩) vF9_0H.out (own_ne_row vF9_0H.out rFH.out (by decide)) (.slice V9 (combR gs ts xs ys tt dx dy).1.length c9))
  rw [← hV] at vV9_0
  have vV9_0H := Lib.hid vV9_0
  clear vV9_0
  clear yF0 kF0 rV
  have s15 : w3.heap.size ≤ w10.heap.size := by have := hb10.size; (try simp at this); omega
  have s15H := Lib.hid s15
  have kw_15 : Below w.heap.size w w10 := bl_tr bk_ hb10
  have lb0_15 : w.heap.size < w10.heap.size := Nat.lt_of_lt_of_le (by go_simp) hb10.size
  have yb0_0_15 : w10.cell? ⟨w.heap.size, 0, none⟩ = some (.slice G n cg) := (hb10.cell (p := ⟨w.heap.size, 0, none⟩) (by go_simp)).trans (by go_simp)
  have yb0_1_15 : w10.cell? ⟨w.heap.size, 1, none⟩ = some (.slice T m ct) := (hb10.cell (p := ⟨w.heap.size, 1, none⟩) (by go_simp)).trans (by go_simp)
  have lb1_15 : w.heap.size + 1 < w10.heap.size := Nat.lt_of_lt_of_le (by go_simp) hb10.size
  have yb1_0_15 : w10.cell? ⟨w.heap.size + 1, 0, none⟩ = some (.slice A q ca) := (hb10.cell (p := ⟨w.heap.size + 1, 0, none⟩) (by go_simp)).trans (by go_simp)
  have lb2_15 : w.heap.size + 2 < w10.heap.size := Nat.lt_of_lt_of_le (by go_simp) hb10.size
  have yb2_0_15 : w10.cell? ⟨w.heap.size + 2, 0, none⟩ = some (.slice C nb cb) := (hb10.cell (p := ⟨w.heap.size + 2, 0, none⟩) (by go_simp)).trans (by go_simp)
  have lb3_15 : w.heap.size + 3 < w10.heap.size := Nat.lt_of_lt_of_le (by go_simp) hb10.size
  have yb3_0_15 : w10.cell? ⟨w.heap.size + 3, 0, none⟩ = some (.int .i64 dx) := (hb10.cell (p := ⟨w.heap.size + 3, 0, none⟩) (by go_simp)).trans (by go_simp)
  have yb3_1_15 : w10.cell? ⟨w.heap.size + 3, 1, none⟩ = some (.int .i64 dy) := (hb10.cell (p := ⟨w.heap.size + 3, 1, none⟩) (by go_simp)).trans (by go_simp)
  clear yb3_1_3 yb3_0_3 lb3_3 yb2_0_3 lb2_3 yb1_0_3 lb1_3 yb0_1_3 yb0_0_3 lb0_3 kw_3 s15
  clear hV hb10
  have krV4 : Below w10.heap.size w10 w10 := bl_refl _
  go_wp2_with fail
  refine (toTileSet_any _ _ _ _ _ _ gs ts _ (hG.below RGl.stable bk_) (hT.below RTi.stable bk_) (by omega) (by omega) htsH.out).mono ?_
  rintro e w11 ⟨G11, T11, rfl, o11, p11, hb11⟩
  have s16 : w10.heap.size ≤ w11.heap.size := by have := hb11.size; (try simp at this); omega
  have s16H := Lib.hid s16
  have kw_16 : Below w.heap.size w w11 := bl_tr bk_ hb11
  have krV4_16 : Below w10.heap.size w10 w11 := bl_tr bk_ hb11
  have lb0_16 : w.heap.size < w11.heap.size := Nat.lt_of_lt_of_le (by go_simp) hb11.size
  have yb0_0_16 : w11.cell? ⟨w.heap.size, 0, none⟩ = some (.slice G n cg) := (hb11.cell (p := ⟨w.heap.size, 0, none⟩) (by go_simp)).trans (by go_simp)
  have yb0_1_16 : w11.cell? ⟨w.heap.size, 1, none⟩ = some (.slice T m ct) := (hb11.cell (p := ⟨w.heap.size, 1, none⟩) (by go_simp)).trans (by go_simp)
  have lb1_16 : w.heap.size + 1 < w11.heap.size := Nat.lt_of_lt_of_le (by go_simp) hb11.size
  have yb1_0_16 : w11.cell? ⟨w.heap.size + 1, 0, none⟩ = some (.slice A q ca) := (hb11.cell (p := ⟨w.heap.size + 1, 0, none⟩) (by go_simp)).trans (by go_simp)
  have lb2_16 : w.heap.size + 2 < w11.heap.size := Nat.lt_of_lt_of_le (by go_simp) hb11.size
  have yb2_0_16 : w11.cell? ⟨w.heap.size + 2, 0, none⟩ = some (.slice C nb cb) := (hb11.cell (p := ⟨w.heap.size + 2, 0, none⟩) (by go_simp)).trans (by go_simp)
  have lb3_16 : w.heap.size + 3 < w11.heap.size := Nat.lt_of_lt_of_le (by go_simp) hb11.size
  have yb3_0_16 : w11.cell? ⟨w.heap.size + 3, 0, none⟩ = some (.int .i64 dx) := (hb11.cell (p := ⟨w.heap.size + 3, 0, none⟩) (by go_simp)).trans (by go_simp)
  have yb3_1_16 : w11.cell? ⟨w.heap.size + 3, 1, none⟩ = some (.int .i64 dy) := (hb11.cell (p := ⟨w.heap.size + 3, 1, none⟩) (by go_simp)).trans (by go_simp)
  have lb4_16 : bF4 < w11.heap.size := Nat.lt_of_lt_of_le (by go_simp) hb11.size
  have yb4_0_16 : w11.cell? ⟨bF4, 0, none⟩ = some (.slice V9 (combR gs ts xs ys tt dx dy).1.length c9) := (hb11.cell (p := ⟨bF4, 0, none⟩) (by go_simp)).trans (by go_simp)
  clear yg4_0 lg4 yb3_1_15 yb3_0_15 lb3_15 yb2_0_15 lb2_15 yb1_0_15 lb1_15 yb0_1_15 yb0_0_15 lb0_15 krV4 kw_15 s16
  clear hb11
  have kc11 : Below w11.heap.size w11 w11 := bl_refl _
  have o11H := Lib.hid o11
  clear o11
  have p11H := Lib.hid p11
  clear p11
  go_wp2_with fail
  refine (toAssembly_any _ _ _ xs _ (hA.below RPl.stable bk_) (by omega)).mono ?_
  rintro e w12 ⟨A12, rfl, o12, hb12⟩
  have s17 : w11.heap.size + 1 ≤ w12.heap.size := by have := hb12.size; (try simp at this); omega
  have s17H := Lib.hid s17
  have kw_17 : Below w.heap.size w w12 := bl_tr bk_ hb12
  have krV4_17 : Below w10.heap.size w10 w12 := bl_tr bk_ hb12
  have kc11_17 : Below w11.heap.size w11 w12 := bl_tr bk_ hb12
  have lb0_17 : w.heap.size < w12.heap.size := Nat.lt_of_lt_of_le (by go_simp) hb12.size
  have yb0_0_17 : w12.cell? ⟨w.heap.size, 0, none⟩ = some (.slice G n cg) := (hb12.cell (p := ⟨w.heap.size, 0, none⟩) (by go_simp)).trans (by go_simp)
  have yb0_1_17 : w12.cell? ⟨w.heap.size, 1, none⟩ = some (.slice T m ct) := (hb12.cell (p := ⟨w.heap.size, 1, none⟩) (by go_simp)).trans (by go_simp)
  have lb1_17 : w.heap.size + 1 < w12.heap.size := Nat.lt_of_lt_of_le (by go_simp) hb12.size
  have yb1_0_17 : w12.cell? ⟨w.heap.size + 1, 0, none⟩ = some (.slice A q ca) := (hb12.cell (p := ⟨w.heap.size + 1, 0, none⟩) (by go_simp)).trans (by go_simp)
  have lb2_17 : w.heap.size + 2 < w12.heap.size := Nat.lt_of_lt_of_le (by go_simp) hb12.size
  have yb2_0_17 : w12.cell? ⟨w.heap.size + 2, 0, none⟩ = some (.slice C nb cb) := (hb12.cell (p := ⟨w.heap.size + 2, 0, none⟩) (by go_simp)).trans (by go_simp)
  have lb3_17 : w.heap.size + 3 < w12.heap.size := Nat.lt_of_lt_of_le (by go_simp) hb12.size
  have yb3_0_17 : w12.cell? ⟨w.heap.size + 3, 0, none⟩ = some (.int .i64 dx) := (hb12.cell (p := ⟨w.heap.size + 3, 0, none⟩) (by go_simp)).trans (by go_simp)
  have yb3_1_17 : w12.cell? ⟨w.heap.size + 3, 1, none⟩ = some (.int .i64 dy) := (hb12.cell (p := ⟨w.heap.size + 3, 1, none⟩) (by go_simp)).trans (by go_simp)
  have lb4_17 : bF4 < w12.heap.size := Nat.lt_of_lt_of_le (by go_simp) hb12.size
  have yb4_0_17 : w12.cell? ⟨bF4, 0, none⟩ = some (.slice V9 (combR gs ts xs ys tt dx dy).1.length c9) := (hb12.cell (p := ⟨bF4, 0, none⟩) (by go_simp)).trans (by go_simp)
  have lb5_17 : w11.heap.size < w12.heap.size := Nat.lt_of_lt_of_le (by go_simp) hb12.size
  have yb5_0_17 : w12.cell? ⟨w11.heap.size, 0, none⟩ = some (.slice G11 n n) := (hb12.cell (p := ⟨w11.heap.size, 0, none⟩) (by go_simp)).trans (by go_simp)
  have yb5_1_17 : w12.cell? ⟨w11.heap.size, 1, none⟩ = some (.slice T11 m m) := (hb12.cell (p := ⟨w11.heap.size, 1, none⟩) (by go_simp)).trans (by go_simp)
  clear yb4_0_16 lb4_16 yb3_1_16 yb3_0_16 lb3_16 yb2_0_16 lb2_16 yb1_0_16 lb1_16 yb0_1_16 yb0_0_16 lb0_16 kc11 krV4_16 kw_16 s17
  clear hb12
  have kc12 : Below w12.heap.size w12 w12 := bl_refl _
  have o12H := Lib.hid o12
  clear o12
  go_wp2_with fail
  refine (toAssembly_any _ _ _ ys _ (hC.below RPl.stable bk_) (by omega)).mono ?_
  rintro e w13 ⟨A13, rfl, o13, hb13⟩
  have s18 : w12.heap.size + 1 ≤ w13.heap.size := by have := hb13.size; (try simp at this); omega
  have s18H := Lib.hid s18
  have kw_18 : Below w.heap.size w w13 := bl_tr bk_ hb13
  have krV4_18 : Below w10.heap.size w10 w13 := bl_tr bk_ hb13
  have kc11_18 : Below w11.heap.size w11 w13 := bl_tr bk_ hb13
  have kc12_18 : Below w12.heap.size w12 w13 := bl_tr bk_ hb13
  have lb0_18 : w.heap.size < w13.heap.size := Nat.lt_of_lt_of_le (by go_simp) hb13.size
  have yb0_0_18 : w13.cell? ⟨w.heap.size, 0, none⟩ = some (.slice G n cg) := (hb13.cell (p := ⟨w.heap.size, 0, none⟩) (by go_simp)).trans (by go_simp)
  have yb0_1_18 : w13.cell? ⟨w.heap.size, 1, none⟩ = some (.slice T m ct) := (hb13.cell (p := ⟨w.heap.size, 1, none⟩) (by go_simp)).trans (by go_simp)
  have lb1_18 : w.heap.size + 1 < w13.heap.size := Nat.lt_of_lt_of_le (by go_simp) hb13.size
  have yb1_0_18 : w13.cell? ⟨w.heap.size + 1, 0, none⟩ = some (.slice A q ca) := (hb13.cell (p := ⟨w.heap.size + 1, 0, none⟩) (by go_simp)).trans (by go_simp)
  have lb2_18 : w.heap.size + 2 < w13.heap.size := Nat.lt_of_lt_of_le (by go_simp) hb13.size
  have yb2_0_18 : w13.cell? ⟨w.heap.size + 2, 0, none⟩ = some (.slice C nb cb) := (hb13.cell (p := ⟨w.heap.size + 2, 0, none⟩) (by go_simp)).trans (by go_simp)
  have lb3_18 : w.heap.size + 3 < w13.heap.size := Nat.lt_of_lt_of_le (by go_simp) hb13.size
  have yb3_0_18 : w13.cell? ⟨w.heap.size + 3, 0, none⟩ = some (.int .i64 dx) := (hb13.cell (p := ⟨w.heap.size + 3, 0, none⟩) (by go_simp)).trans (by go_simp)
  have yb3_1_18 : w13.cell? ⟨w.heap.size + 3, 1, none⟩ = some (.int .i64 dy) := (hb13.cell (p := ⟨w.heap.size + 3, 1, none⟩) (by go_simp)).trans (by go_simp)
  have lb4_18 : bF4 < w13.heap.size := Nat.lt_of_lt_of_le (by go_simp) hb13.size
  have yb4_0_18 : w13.cell? ⟨bF4, 0, none⟩ = some (.slice V9 (combR gs ts xs ys tt dx dy).1.length c9) := (hb13.cell (p := ⟨bF4, 0, none⟩) (by go_simp)).trans (by go_simp)
  have lb5_18 : w11.heap.size < w13.heap.size := Nat.lt_of_lt_of_le (by go_simp) hb13.size
  have yb5_0_18 : w13.cell? ⟨w11.heap.size, 0, none⟩ = some (.slice G11 n n) := (hb13.cell (p := ⟨w11.heap.size, 0, none⟩) (by go_simp)).trans (by go_simp)
  have yb5_1_18 : w13.cell? ⟨w11.heap.size, 1, none⟩ = some (.slice T11 m m) := (hb13.cell (p := ⟨w11.heap.size, 1, none⟩) (by go_simp)).trans (by go_simp)
  have lb6_18 : w12.heap.size < w13.heap.size := Nat.lt_of_lt_of_le (by go_simp) hb13.size
  have yb6_0_18 : w13.cell? ⟨w12.heap.size, 0, none⟩ = some (.slice A12 q q) := (hb13.cell (p := ⟨w12.heap.size, 0, none⟩) (by go_simp)).trans (by go_simp)
  clear yb5_1_17 yb5_0_17 lb5_17 yb4_0_17 lb4_17 yb3_1_17 yb3_0_17 lb3_17 yb2_0_17 lb2_17 yb1_0_17 lb1_17 yb0_1_17 yb0_0_17 lb0_17 kc12 kc11_17 krV4_17 kw_17 s18
  clear hb13
  have kc13 : Below w13.heap.size w13 w13 := bl_refl _
  have o13H := Lib.hid o13
  clear o13
  go_wp2_with fail
  obtain ⟨w14, hV⟩ : ∃ V, V = (w13.alloc (Obj.cells #[.slice A13 nb nb] 35)) := ⟨_, rfl⟩
  rw [← hV]
  have hb14 : Below (w13.alloc (Obj.cells #[.slice A13 nb nb] 35)).heap.size (w13.alloc (Obj.cells #[.slice A13 nb nb] 35)) w14 := by rw [hV]; exact bl_refl _
  have s19 : w13.heap.size + 1 ≤ w14.heap.size := by have := hb14.size; (try simp at this); omega
  have s19H := Lib.hid s19
  have kw_19 : Below w.heap.size w w14 := bl_tr bk_ hb14
  have krV4_19 : Below w10.heap.size w10 w14 := bl_tr bk_ hb14
  have kc11_19 : Below w11.heap.size w11 w14 := bl_tr bk_ hb14
  have kc12_19 : Below w12.heap.size w12 w14 := bl_tr bk_ hb14
  have kc13_19 : Below w13.heap.size w13 w14 := bl_tr bk_ hb14
  have lb0_19 : w.heap.size < w14.heap.size := Nat.lt_of_lt_of_le (by go_simp) hb14.size
  have yb0_0_19 : w14.cell? ⟨w.heap.size, 0, none⟩ = some (.slice G n cg) := (hb14.cell (p := ⟨w.heap.size, 0, none⟩) (by go_simp)).trans (by go_simp)
  have yb0_1_19 : w14.cell? ⟨w.heap.size, 1, none⟩ = some (.slice T m ct) := (hb14.cell (p := ⟨w.heap.size, 1, none⟩) (by go_simp)).trans (by go_simp)
  have lb1_19 : w.heap.size + 1 < w14.heap.size := Nat.lt_of_lt_of_le (by go_simp) hb14.size
  have yb1_0_19 : w14.cell? ⟨w.heap.size + 1, 0, none⟩ = some (.slice A q ca) := (hb14.cell (p := ⟨w.heap.size + 1, 0, none⟩) (by go_simp)).trans (by go_simp)
  have lb2_19 : w.heap.size + 2 < w14.heap.size := Nat.lt_of_lt_of_le (by go_simp) hb14.size
  have yb2_0_19 : w14.cell? ⟨w.heap.size + 2, 0, none⟩ = some (.slice C nb cb) := (hb14.cell (p := ⟨w.heap.size + 2, 0, none⟩) (by go_simp)).trans (by go_simp)
  have lb3_19 : w.heap.size + 3 < w14.heap.size := Nat.lt_of_lt_of_le (by go_simp) hb14.size
  have yb3_0_19 : w14.cell? ⟨w.heap.size + 3, 0, none⟩ = some (.int .i64 dx) := (hb14.cell (p := ⟨w.heap.size + 3, 0, none⟩) (by go_simp)).trans (by go_simp)
  have yb3_1_19 : w14.cell? ⟨w.heap.size + 3, 1, none⟩ = some (.int .i64 dy) := (hb14.cell (p := ⟨w.heap.size + 3, 1, none⟩) (by go_simp)).trans (by go_simp)
  have lb4_19 : bF4 < w14.heap.size := Nat.lt_of_lt_of_le (by go_simp) hb14.size
  have yb4_0_19 : w14.cell? ⟨bF4, 0, none⟩ = some (.slice V9 (combR gs ts xs ys tt dx dy).1.length c9) := (hb14.cell (p := ⟨bF4, 0, none⟩) (by go_simp)).trans (by go_simp)
  have lb5_19 : w11.heap.size < w14.heap.size := Nat.lt_of_lt_of_le (by go_simp) hb14.size
  have yb5_0_19 : w14.cell? ⟨w11.heap.size, 0, none⟩ = some (.slice G11 n n) := (hb14.cell (p := ⟨w11.heap.size, 0, none⟩) (by go_simp)).trans (by go_simp)
  have yb5_1_19 : w14.cell? ⟨w11.heap.size, 1, none⟩ = some (.slice T11 m m) := (hb14.cell (p := ⟨w11.heap.size, 1, none⟩) (by go_simp)).trans (by go_simp)
  have lb6_19 : w12.heap.size < w14.heap.size := Nat.lt_of_lt_of_le (by go_simp) hb14.size
  have yb6_0_19 : w14.cell? ⟨w12.heap.size, 0, none⟩ = some (.slice A12 q q) := (hb14.cell (p := ⟨w12.heap.size, 0, none⟩) (by go_simp)).trans (by go_simp)
  have lb7_19 : w13.heap.size < w14.heap.size := Nat.lt_of_lt_of_le (by go_simp) hb14.size
  have yb7_0_19 : w14.cell? ⟨w13.heap.size, 0, none⟩ = some (.slice A13 nb nb) := (hb14.cell (p := ⟨w13.heap.size, 0, none⟩) (by go_simp)).trans (by go_simp)
  clear yb6_0_18 lb6_18 yb5_1_18 yb5_0_18 lb5_18 yb4_0_18 lb4_18 yb3_1_18 yb3_0_18 lb3_18 yb2_0_18 lb2_18 yb1_0_18 lb1_18 yb0_1_18 yb0_0_18 lb0_18 kc13 kc12_18 kc11_18 krV4_18 kw_18 s19
  clear hV hb14
  have kR15 : Below w14.heap.size w14 w14 := bl_refl _
  refine wp_region_fl 10 [(0, .q), (1, .q), (2, .q), (3, .q), (4, .q), (5, .g), (6, .g), (7, .q), (8, .q), (9, .p)] [(11, .b), (12, .q)] _ (Obj.cells #[.slice none 0 0] 35) (by kernel_rfl) (by kernel_rfl) (by kernel_rfl) (by kernel_rfl) rfl (fun a w => ⟨rfl, by unfold flPtr; go_simp⟩) ?_
  simp only [pick, List.filterMap_cons, List.filterMap_nil, List.getElem?_toArray, List.getElem?_cons_zero, List.getElem?_cons_succ, Option.map_some]
  repeat (first | ((with_reducible refine wpL_p (fun K hK => ?_)); go_simp; refine hK _ ?_; clear hK K) | ((with_reducible refine wpL_q (fun K hK => ?_)); go_simp; (first | refine hK _ ?_ | (go_bits; refine hK _ ?_) | (go_bits; go_simp; refine hK _ ?_)); clear hK K))
  with_reducible refine wpL_g rfl (fun K hK st16 w16u mv16 => ?_)
  have hu16 := mv16.below
  have fu16 := (FlAt.none (Obj.cells #[.slice none 0 0] 35) (World.drew _)).mv mv16
  have Hmv16 := Lib.hid mv16
  clear mv16
  have s20 : w14.heap.size ≤ w16u.heap.size := by have := hu16.size; (try simp at this); omega
  have s20H := Lib.hid s20
  have kw_20 : Below w.heap.size w w16u := bl_tr bk_ hu16
  have krV4_20 : Below w10.heap.size w10 w16u := bl_tr bk_ hu16
  have kc11_20 : Below w11.heap.size w11 w16u := bl_tr bk_ hu16
  have kc12_20 : Below w12.heap.size w12 w16u := bl_tr bk_ hu16
  have kc13_20 : Below w13.heap.size w13 w16u := bl_tr bk_ hu16
  have kR15_20 : Below w14.heap.size w14 w16u := bl_tr bk_ hu16
  have lb0_20 : w.heap.size < w16u.heap.size := Nat.lt_of_lt_of_le (by go_simp) hu16.size
  have yb0_0_20 : w16u.cell? ⟨w.heap.size, 0, none⟩ = some (.slice G n cg) := (hu16.cell (p := ⟨w.heap.size, 0, none⟩) (by go_simp)).trans (by go_simp)
  have yb0_1_20 : w16u.cell? ⟨w.heap.size, 1, none⟩ = some (.slice T m ct) := (hu16.cell (p := ⟨w.heap.size, 1, none⟩) (by go_simp)).trans (by go_simp)
  have lb1_20 : w.heap.size + 1 < w16u.heap.size := Nat.lt_of_lt_of_le (by go_simp) hu16.size
  have yb1_0_20 : w16u.cell? ⟨w.heap.size + 1, 0, none⟩ = some (.slice A q ca) := (hu16.cell (p := ⟨w.heap.size + 1, 0, none⟩) (by go_simp)).trans (by go_simp)
  have lb2_20 : w.heap.size + 2 < w16u.heap.size := Nat.lt_of_lt_of_le (by go_simp) hu16.size
  have yb2_0_20 : w16u.cell? ⟨w.heap.size + 2, 0, none⟩ = some (.slice C nb cb) := (hu16.cell (p := ⟨w.heap.size + 2, 0, none⟩) (by go_simp)).trans (by go_simp)
  have lb3_20 : w.heap.size + 3 < w16u.heap.size := Nat.lt_of_lt_of_le (by go_simp) hu16.size
  have yb3_0_20 : w16u.cell? ⟨w.heap.size + 3, 0, none⟩ = some (.int .i64 dx) := (hu16.cell (p := ⟨w.heap.size + 3, 0, none⟩) (by go_simp)).trans (by go_simp)
  have yb3_1_20 : w16u.cell? ⟨w.heap.size + 3, 1, none⟩ = some (.int .i64 dy) := (hu16.cell (p := ⟨w.heap.size + 3, 1, none⟩) (by go_simp)).trans (by go_simp)
  have lb4_20 : bF4 < w16u.heap.size := Nat.lt_of_lt_of_le (by go_simp) hu16.size
  have yb4_0_20 : w16u.cell? ⟨bF4, 0, none⟩ = some (.slice V9 (combR gs ts xs ys tt dx dy).1.length c9) := (hu16.cell (p := ⟨bF4, 0, none⟩) (by go_simp)).trans (by go_simp)
  have lb5_20 : w11.heap.size < w16u.heap.size := Nat.lt_of_lt_of_le (by go_simp) hu16.size
  have yb5_0_20 : w16u.cell? ⟨w11.heap.size, 0, none⟩ = some (.slice G11 n n) := (hu16.cell (p := ⟨w11.heap.size, 0, none⟩) (by go_simp)).trans (by go_simp)
  have yb5_1_20 : w16u.cell? ⟨w11.heap.size, 1, none⟩ = some (.slice T11 m m) := (hu16.cell (p := ⟨w11.heap.size, 1, none⟩) (by go_simp)).trans (by go_simp)
  have lb6_20 : w12.heap.size < w16u.heap.size := Nat.lt_of_lt_of_le (by go_simp) hu16.size
  have yb6_0_20 : w16u.cell? ⟨w12.heap.size, 0, none⟩ = some (.slice A12 q q) := (hu16.cell (p := ⟨w12.heap.size, 0, none⟩) (by go_simp)).trans (by go_simp)
  have lb7_20 : w13.heap.size < w16u.heap.size := Nat.lt_of_lt_of_le (by go_simp) hu16.size
  have yb7_0_20 : w16u.cell? ⟨w13.heap.size, 0, none⟩ = some (.slice A13 nb nb) := (hu16.cell (p := ⟨w13.heap.size, 0, none⟩) (by go_simp)).trans (by go_simp)
  go_simp
  refine (toPoint_any _ _ _).mono ?_
  rintro e w16 ⟨rfl, hb16⟩
  refine ⟨_, rfl, hb16, hK _ _ _ ?_⟩
  clear hK K
  have fd16 := fu16.below hb16
  have s21 : w16u.heap.size ≤ w16.heap.size := by have := hb16.size; (try simp at this); omega
  have s21H := Lib.hid s21
  have kw_21 : Below w.heap.size w w16 := bl_tr bk_ hb16
  have krV4_21 : Below w10.heap.size w10 w16 := bl_tr bk_ hb16
  have kc11_21 : Below w11.heap.size w11 w16 := bl_tr bk_ hb16
  have kc12_21 : Below w12.heap.size w12 w16 := bl_tr bk_ hb16
  have kc13_21 : Below w13.heap.size w13 w16 := bl_tr bk_ hb16
  have kR15_21 : Below w14.heap.size w14 w16 := bl_tr bk_ hb16
  have lb0_21 : w.heap.size < w16.heap.size := Nat.lt_of_lt_of_le (by go_simp) hb16.size
  have yb0_0_21 : w16.cell? ⟨w.heap.size, 0, none⟩ = some (.slice G n cg) := (hb16.cell (p := ⟨w.heap.size, 0, none⟩) (by go_simp)).trans (by go_simp)
  have yb0_1_21 : w16.cell? ⟨w.heap.size, 1, none⟩ = some (.slice T m ct) := (hb16.cell (p := ⟨w.heap.size, 1, none⟩) (by go_simp)).trans (by go_simp)
  have lb1_21 : w.heap.size + 1 < w16.heap.size := Nat.lt_of_lt_of_le (by go_simp) hb16.size
  have yb1_0_21 : w16.cell? ⟨w.heap.size + 1, 0, none⟩ = some (.slice A q ca) := (hb16.cell (p := ⟨w.heap.size + 1, 0, none⟩) (by go_simp)).trans (by go_simp)
  have lb2_21 : w.heap.size + 2 < w16.heap.size := Nat.lt_of_lt_of_le (by go_simp) hb16.size
  have yb2_0_21 : w16.cell? ⟨w.heap.size + 2, 0, none⟩ = some (.slice C nb cb) := (hb16.cell (p := ⟨w.heap.size + 2, 0, none⟩) (by go_simp)).trans (by go_simp)
  have lb3_21 : w.heap.size + 3 < w16.heap.size := Nat.lt_of_lt_of_le (by go_simp) hb16.size
  have yb3_0_21 : w16.cell? ⟨w.heap.size + 3, 0, none⟩ = some (.int .i64 dx) := (hb16.cell (p := ⟨w.heap.size + 3, 0, none⟩) (by go_simp)).trans (by go_simp)
  have yb3_1_21 : w16.cell? ⟨w.heap.size + 3, 1, none⟩ = some (.int .i64 dy) := (hb16.cell (p := ⟨w.heap.size + 3, 1, none⟩) (by go_simp)).trans (by go_simp)
  have lb4_21 : bF4 < w16.heap.size := Nat.lt_of_lt_of_le (by go_simp) hb16.size
  have yb4_0_21 : w16.cell? ⟨bF4, 0, none⟩ = some (.slice V9 (combR gs ts xs ys tt dx dy).1.length c9) := (hb16.cell (p := ⟨bF4, 0, none⟩) (by go_simp)).trans (by go_simp)
  have lb5_21 : w11.heap.size < w16.heap.size := Nat.lt_of_lt_of_le (by go_simp) hb16.size
  have yb5_0_21 : w16.cell? ⟨w11.heap.size, 0, none⟩ = some (.slice G11 n n) := (hb16.cell (p := ⟨w11.heap.size, 0, none⟩) (by go_simp)).trans (by go_simp)
  have yb5_1_21 : w16.cell? ⟨w11.heap.size, 1, none⟩ = some (.slice T11 m m) := (hb16.cell (p := ⟨w11.heap.size, 1, none⟩) (by go_simp)).trans (by go_simp)
  have lb6_21 : w12.heap.size < w16.heap.size := Nat.lt_of_lt_of_le (by go_simp) hb16.size
  have yb6_0_21 : w16.cell? ⟨w12.heap.size, 0, none⟩ = some (.slice A12 q q) := (hb16.cell (p := ⟨w12.heap.size, 0, none⟩) (by go_simp)).trans (by go_simp)
  have lb7_21 : w13.heap.size < w16.heap.size := Nat.lt_of_lt_of_le (by go_simp) hb16.size
  have yb7_0_21 : w16.cell? ⟨w13.heap.size, 0, none⟩ = some (.slice A13 nb nb) := (hb16.cell (p := ⟨w13.heap.size, 0, none⟩) (by go_simp)).trans (by go_simp)
  clear hb16
  with_reducible refine wpL_g rfl (fun K hK st17 w17u mv17 => ?_)
  have hu17 := mv17.below
  have fu17 := fd16.mv mv17
  have Hmv17 := Lib.hid mv17
  clear mv17
  have s22 : w16.heap.size ≤ w17u.heap.size := by have := hu17.size; (try simp at this); omega
  have s22H := Lib.hid s22
  have kw_22 : Below w.heap.size w w17u := bl_tr bk_ hu17
  have krV4_22 : Below w10.heap.size w10 w17u := bl_tr bk_ hu17
  have kc11_22 : Below w11.heap.size w11 w17u := bl_tr bk_ hu17
  have kc12_22 : Below w12.heap.size w12 w17u := bl_tr bk_ hu17
  have kc13_22 : Below w13.heap.size w13 w17u := bl_tr bk_ hu17
  have kR15_22 : Below w14.heap.size w14 w17u := bl_tr bk_ hu17
  have lb0_22 : w.heap.size < w17u.heap.size := Nat.lt_of_lt_of_le (by go_simp) hu17.size
  have yb0_0_22 : w17u.cell? ⟨w.heap.size, 0, none⟩ = some (.slice G n cg) := (hu17.cell (p := ⟨w.heap.size, 0, none⟩) (by go_simp)).trans (by go_simp)
  have yb0_1_22 : w17u.cell? ⟨w.heap.size, 1, none⟩ = some (.slice T m ct) := (hu17.cell (p := ⟨w.heap.size, 1, none⟩) (by go_simp)).trans (by go_simp)
  have lb1_22 : w.heap.size + 1 < w17u.heap.size := Nat.lt_of_lt_of_le (by go_simp) hu17.size
  have yb1_0_22 : w17u.cell? ⟨w.heap.size + 1, 0, none⟩ = some (.slice A q ca) := (hu17.cell (p := ⟨w.heap.size + 1, 0, none⟩) (by go_simp)).trans (by go_simp)
  have lb2_22 : w.heap.size + 2 < w17u.heap.size := Nat.lt_of_lt_of_le (by go_simp) hu17.size
  have yb2_0_22 : w17u.cell? ⟨w.heap.size + 2, 0, none⟩ = some (.slice C nb cb) := (hu17.cell (p := ⟨w.heap.size + 2, 0, none⟩) (by go_simp)).trans (by go_simp)
  have lb3_22 : w.heap.size + 3 < w17u.heap.size := Nat.lt_of_lt_of_le (by go_simp) hu17.size
  have yb3_0_22 : w17u.cell? ⟨w.heap.size + 3, 0, none⟩ = some (.int .i64 dx) := (hu17.cell (p := ⟨w.heap.size + 3, 0, none⟩) (by go_simp)).trans (by go_simp)
  have yb3_1_22 : w17u.cell? ⟨w.heap.size + 3, 1, none⟩ = some (.int .i64 dy) := (hu17.cell (p := ⟨w.heap.size + 3, 1, none⟩) (by go_simp)).trans (by go_simp)
  have lb4_22 : bF4 < w17u.heap.size := Nat.lt_of_lt_of_le (by go_simp) hu17.size
  have yb4_0_22 : w17u.cell? ⟨bF4, 0, none⟩ = some (.slice V9 (combR gs ts xs ys tt dx dy).1.length c9) := (hu17.cell (p := ⟨bF4, 0, none⟩) (by go_simp)).trans (by go_simp)
  have lb5_22 : w11.heap.size < w17u.heap.size := Nat.lt_of_lt_of_le (by go_simp) hu17.size
  have yb5_0_22 : w17u.cell? ⟨w11.heap.size, 0, none⟩ = some (.slice G11 n n) := (hu17.cell (p := ⟨w11.heap.size, 0, none⟩) (by go_simp)).trans (by go_simp)
  have yb5_1_22 : w17u.cell? ⟨w11.heap.size, 1, none⟩ = some (.slice T11 m m) := (hu17.cell (p := ⟨w11.heap.size, 1, none⟩) (by go_simp)).trans (by go_simp)
  have lb6_22 : w12.heap.size < w17u.heap.size := Nat.lt_of_lt_of_le (by go_simp) hu17.size
  have yb6_0_22 : w17u.cell? ⟨w12.heap.size, 0, none⟩ = some (.slice A12 q q) := (hu17.cell (p := ⟨w12.heap.size, 0, none⟩) (by go_simp)).trans (by go_simp)
  have lb7_22 : w13.heap.size < w17u.heap.size := Nat.lt_of_lt_of_le (by go_simp) hu17.size
  have yb7_0_22 : w17u.cell? ⟨w13.heap.size, 0, none⟩ = some (.slice A13 nb nb) := (hu17.cell (p := ⟨w13.heap.size, 0, none⟩) (by go_simp)).trans (by go_simp)
  go_simp
  refine (Combine_any _ _ _ _ _ _ _ _ _ _ _ _ gs ts xs ys tt dx dy _ ⟨o11H.out.rd.below RGl.stable bk_, p11H.out.rdTi.below RTi.stable bk_, o12H.out.rd.below RPl.stable bk_, by omega, by omega, by omega, hgk.out, htk.out⟩ ⟨o11H.out.rd.below RGl.stable bk_, p11H.out.rdTi.below RTi.stable bk_, o13H.out.rd.below RPl.stable bk_, by omega, by omega, by omega, hgk.out, htk.out⟩).mono ?_
  rintro e w17 ⟨V17, c17, rfl, v17, hb17⟩
  refine ⟨_, rfl, hb17, hK _ _ _ ?_⟩
  clear hK K
  have fd17 := fu17.below hb17
  have s23 : w17u.heap.size ≤ w17.heap.size := by have := hb17.size; (try simp at this); omega
  have s23H := Lib.hid s23
  have kw_23 : Below w.heap.size w w17 := bl_tr bk_ hb17
  have krV4_23 : Below w10.heap.size w10 w17 := bl_tr bk_ hb17
  have kc11_23 : Below w11.heap.size w11 w17 := bl_tr bk_ hb17
  have kc12_23 : Below w12.heap.size w12 w17 := bl_tr bk_ hb17
  have kc13_23 : Below w13.heap.size w13 w17 := bl_tr bk_ hb17
  have kR15_23 : Below w14.heap.size w14 w17 := bl_tr bk_ hb17
  have lb0_23 : w.heap.size < w17.heap.size := Nat.lt_of_lt_of_le (by go_simp) hb17.size
  have yb0_0_23 : w17.cell? ⟨w.heap.size, 0, none⟩ = some (.slice G n cg) := (hb17.cell (p := ⟨w.heap.size, 0, none⟩) (by go_simp)).trans (by go_simp)
  have yb0_1_23 : w17.cell? ⟨w.heap.size, 1, none⟩ = some (.slice T m ct) := (hb17.cell (p := ⟨w.heap.size, 1, none⟩) (by go_simp)).trans (by go_simp)
  have lb1_23 : w.heap.size + 1 < w17.heap.size := Nat.lt_of_lt_of_le (by go_simp) hb17.size
  have yb1_0_23 : w17.cell? ⟨w.heap.size + 1, 0, none⟩ = some (.slice A q ca) := (hb17.cell (p := ⟨w.heap.size + 1, 0, none⟩) (by go_simp)).trans (by go_simp)
  have lb2_23 : w.heap.size + 2 < w17.heap.size := Nat.lt_of_lt_of_le (by go_simp) hb17.size
  have yb2_0_23 : w17.cell? ⟨w.heap.size + 2, 0, none⟩ = some (.slice C nb cb) := (hb17.cell (p := ⟨w.heap.size + 2, 0, none⟩) (by go_simp)).trans (by go_simp)
  have lb3_23 : w.heap.size + 3 < w17.heap.size := Nat.lt_of_lt_of_le (by go_simp) hb17.size
  have yb3_0_23 : w17.cell? ⟨w.heap.size + 3, 0, none⟩ = some (.int .i64 dx) := (hb17.cell (p := ⟨w.heap.size + 3, 0, none⟩) (by go_simp)).trans (by go_simp)
  have yb3_1_23 : w17.cell? ⟨w.heap.size + 3, 1, none⟩ = some (.int .i64 dy) := (hb17.cell (p := ⟨w.heap.size + 3, 1, none⟩) (by go_simp)).trans (by go_simp)
  have lb4_23 : bF4 < w17.heap.size := Nat.lt_of_lt_of_le (by go_simp) hb17.size
  have yb4_0_23 : w17.cell? ⟨bF4, 0, none⟩ = some (.slice V9 (combR gs ts xs ys tt dx dy).1.length c9) := (hb17.cell (p := ⟨bF4, 0, none⟩) (by go_simp)).trans (by go_simp)
  have lb5_23 : w11.heap.size < w17.heap.size := Nat.lt_of_lt_of_le (by go_simp) hb17.size
  have yb5_0_23 : w17.cell? ⟨w11.heap.size, 0, none⟩ = some (.slice G11 n n) := (hb17.cell (p := ⟨w11.heap.size, 0, none⟩) (by go_simp)).trans (by go_simp)
  have yb5_1_23 : w17.cell? ⟨w11.heap.size, 1, none⟩ = some (.slice T11 m m) := (hb17.cell (p := ⟨w11.heap.size, 1, none⟩) (by go_simp)).trans (by go_simp)
  have lb6_23 : w12.heap.size < w17.heap.size := Nat.lt_of_lt_of_le (by go_simp) hb17.size
  have yb6_0_23 : w17.cell? ⟨w12.heap.size, 0, none⟩ = some (.slice A12 q q) := (hb17.cell (p := ⟨w12.heap.size, 0, none⟩) (by go_simp)).trans (by go_simp)
  have lb7_23 : w13.heap.size < w17.heap.size := Nat.lt_of_lt_of_le (by go_simp) hb17.size
  have yb7_0_23 : w17.cell? ⟨w13.heap.size, 0, none⟩ = some (.slice A13 nb nb) := (hb17.cell (p := ⟨w13.heap.size, 0, none⟩) (by go_simp)).trans (by go_simp)
  clear hb17
  have kr17 : Below w17.heap.size w17 w17 := bl_refl _
  have hv17 : ∀ g, (.slice V17 (combR gs ts xs ys tt dx dy).1.length c17 : Value).ownBlock = some g → g < w17.heap.size := fun g e => (v17.lt g e).2
  have hv17H := Lib.hid hv17
  clear hv17
  have v17H := Lib.hid v17
  clear v17
  repeat (first | ((with_reducible refine wpL_p (fun K hK => ?_)); go_simp; refine hK _ ?_; clear hK K) | ((with_reducible refine wpL_q (fun K hK => ?_)); go_simp; (first | refine hK _ ?_ | (go_bits; refine hK _ ?_) | (go_bits; go_simp; refine hK _ ?_)); clear hK K))
  with_reducible refine wpL_nil (fun bF15 w15f mvF => ?_)
  have huF := mvF.below
  obtain ⟨fl15, fb15⟩ := (fd17.mv mvF).2 _ rfl
  have fo15 := (FlOut.of fu17 w17.heap.size).mv mvF (Nat.le_refl _) _ rfl
  have fo15H := Lib.hid fo15
  clear fo15
  clear mvF
  have s24 : w17.heap.size ≤ w15f.heap.size := by have := huF.size; (try simp at this); omega
  have s24H := Lib.hid s24
  have kw_24 : Below w.heap.size w w15f := bl_tr bk_ huF
  have krV4_24 : Below w10.heap.size w10 w15f := bl_tr bk_ huF
  have kc11_24 : Below w11.heap.size w11 w15f := bl_tr bk_ huF
  have kc12_24 : Below w12.heap.size w12 w15f := bl_tr bk_ huF
  have kc13_24 : Below w13.heap.size w13 w15f := bl_tr bk_ huF
  have kR15_24 : Below w14.heap.size w14 w15f := bl_tr bk_ huF
  have kr17_24 : Below w17.heap.size w17 w15f := bl_tr bk_ huF
  have lb0_24 : w.heap.size < w15f.heap.size := Nat.lt_of_lt_of_le (by go_simp) huF.size
  have yb0_0_24 : w15f.cell? ⟨w.heap.size, 0, none⟩ = some (.slice G n cg) := (huF.cell (p := ⟨w.heap.size, 0, none⟩) (by go_simp)).trans (by go_simp)
  have yb0_1_24 : w15f.cell? ⟨w.heap.size, 1, none⟩ = some (.slice T m ct) := (huF.cell (p := ⟨w.heap.size, 1, none⟩) (by go_simp)).trans (by go_simp)
  have lb1_24 : w.heap.size + 1 < w15f.heap.size := Nat.lt_of_lt_of_le (by go_simp) huF.size
  have yb1_0_24 : w15f.cell? ⟨w.heap.size + 1, 0, none⟩ = some (.slice A q ca) := (huF.cell (p := ⟨w.heap.size + 1, 0, none⟩) (by go_simp)).trans (by go_simp)
  have lb2_24 : w.heap.size + 2 < w15f.heap.size := Nat.lt_of_lt_of_le (by go_simp) huF.size
  have yb2_0_24 : w15f.cell? ⟨w.heap.size + 2, 0, none⟩ = some (.slice C nb cb) := (huF.cell (p := ⟨w.heap.size + 2, 0, none⟩) (by go_simp)).trans (by go_simp)
  have lb3_24 : w.heap.size + 3 < w15f.heap.size := Nat.lt_of_lt_of_le (by go_simp) huF.size
  have yb3_0_24 : w15f.cell? ⟨w.heap.size + 3, 0, none⟩ = some (.int .i64 dx) := (huF.cell (p := ⟨w.heap.size + 3, 0, none⟩) (by go_simp)).trans (by go_simp)
  have yb3_1_24 : w15f.cell? ⟨w.heap.size + 3, 1, none⟩ = some (.int .i64 dy) := (huF.cell (p := ⟨w.heap.size + 3, 1, none⟩) (by go_simp)).trans (by go_simp)
  have lb4_24 : bF4 < w15f.heap.size := Nat.lt_of_lt_of_le (by go_simp) huF.size
  have yb4_0_24 : w15f.cell? ⟨bF4, 0, none⟩ = some (.slice V9 (combR gs ts xs ys tt dx dy).1.length c9) := (huF.cell (p := ⟨bF4, 0, none⟩) (by go_simp)).trans (by go_simp)
  have lb5_24 : w11.heap.size < w15f.heap.size := Nat.lt_of_lt_of_le (by go_simp) huF.size
  have yb5_0_24 : w15f.cell? ⟨w11.heap.size, 0, none⟩ = some (.slice G11 n n) := (huF.cell (p := ⟨w11.heap.size, 0, none⟩) (by go_simp)).trans (by go_simp)
  have yb5_1_24 : w15f.cell? ⟨w11.heap.size, 1, none⟩ = some (.slice T11 m m) := (huF.cell (p := ⟨w11.heap.size, 1, none⟩) (by go_simp)).trans (by go_simp)
  have lb6_24 : w12.heap.size < w15f.heap.size := Nat.lt_of_lt_of_le (by go_simp) huF.size
  have yb6_0_24 : w15f.cell? ⟨w12.heap.size, 0, none⟩ = some (.slice A12 q q) := (huF.cell (p := ⟨w12.heap.size, 0, none⟩) (by go_simp)).trans (by go_simp)
  have lb7_24 : w13.heap.size < w15f.heap.size := Nat.lt_of_lt_of_le (by go_simp) huF.size
  have yb7_0_24 : w15f.cell? ⟨w13.heap.size, 0, none⟩ = some (.slice A13 nb nb) := (huF.cell (p := ⟨w13.heap.size, 0, none⟩) (by go_simp)).trans (by go_simp)
  simp only [World.size_drew] at fl15
  have rF : w15f.rowIs bF15 35 1 (fun i => (#[.slice none 0 0] : Array Value).getD i undef) := ⟨_, fb15, rfl, fun i hi => by simp [hi]⟩
  have yF0 := rF.cell (i := 0) (by decide)
  have kF0 := rF.frozen 0
  have rFH := Lib.hid rF
  clear rF
  have vF17_0 := ownsRow_below v17H.out kr17_24
  have vF17_0H := Lib.hid vF17_0
  clear vF17_0
  simp only [flPtr]
  with_reducible refine wpD_b (fun K hK => ?_)
  go_simp
  refine hK _ _ ?_
  clear hK K
  repeat (first | ((with_reducible refine wpD_p (fun K hK => ?_)); go_simp; refine hK _ ?_; clear hK K) | ((with_reducible refine wpD_q (fun K hK => ?_)); go_simp; (first | refine hK _ ?_ | (go_bits; refine hK _ ?_) | (go_bits; go_simp; refine hK _ ?_)); clear hK K))
  with_reducible refine wpD_nil ?_
  obtain ⟨w18, hV⟩ : ∃ V, V = (w15f.setCell ⟨bF15, 0, none⟩ (.slice V17 (combR gs ts xs ys tt dx dy).1.length c17)) := ⟨_, rfl⟩
  rw [← hV]
  have rV := (rFH.out.set 0 (.slice V17 (combR gs ts xs ys tt dx dy).1.length c17))
  have hb18 := (kR15_24.setCell (p := ⟨bF15, 0, none⟩) fl15 (.slice V17 (combR gs ts xs ys tt dx dy).1.length c17))
  rw [← hV] at rV hb18
  have yg15_0 : w18.cell? ⟨bF15, 0, none⟩ = some (.slice V17 (combR gs ts xs ys tt dx dy).1.length c17) := by rw [rV.cell (i := 0) (by decide)]; simp
  have lg15 := rV.lt
  have sF15H := Lib.hid lg15
  have sE15 : w15f.heap.size ≤ w18.heap.size := by rw [hV]; simp
  have sE15H := Lib.hid sE15
  clear sE15
  have vV17_0 := (ownsRow_setCell_other (a := ⟨bF15, 0, none⟩) vF17_0H.out (own_ne_row vF17_0H.out rFH.out (by decide)) (.slice V17 (combR gs ts xs ys tt dx dy).1.length c17))
  rw [← hV] at vV17_0
  have vV17_0H := Lib.hid vV17_0
  clear vV17_0
  clear yF0 kF0 rV
  have s25 : w14.heap.size ≤ w18.heap.size := by have := hb18.size; (try simp at this); omega
  have s25H := Lib.hid s25
  have kw_25 : Below w.heap.size w w18 := bl_tr bk_ hb18
  have krV4_25 : Below w10.heap.size w10 w18 := bl_tr bk_ hb18
  have kc11_25 : Below w11.heap.size w11 w18 := bl_tr bk_ hb18
  have kc12_25 : Below w12.heap.size w12 w18 := bl_tr bk_ hb18
  have kc13_25 : Below w13.heap.size w13 w18 := bl_tr bk_ hb18
  have lb0_25 : w.heap.size < w18.heap.size := Nat.lt_of_lt_of_le (by go_simp) hb18.size
  have yb0_0_25 : w18.cell? ⟨w.heap.size, 0, none⟩ = some (.slice G n cg) := (hb18.cell (p := ⟨w.heap.size, 0, none⟩) (by go_simp)).trans (by go_simp)
  have yb0_1_25 : w18.cell? ⟨w.heap.size, 1, none⟩ = some (.slice T m ct) := (hb18.cell (p := ⟨w.heap.size, 1, none⟩) (by go_simp)).trans (by go_simp)
  have lb1_25 : w.heap.size + 1 < w18.heap.size := Nat.lt_of_lt_of_le (by go_simp) hb18.size
  have yb1_0_25 : w18.cell? ⟨w.heap.size + 1, 0, none⟩ = some (.slice A q ca) := (hb18.cell (p := ⟨w.heap.size + 1, 0, none⟩) (by go_simp)).trans (by go_simp)
  have lb2_25 : w.heap.size + 2 < w18.heap.size := Nat.lt_of_lt_of_le (by go_simp) hb18.size
  have yb2_0_25 : w18.cell? ⟨w.heap.size + 2, 0, none⟩ = some (.slice C nb cb) := (hb18.cell (p := ⟨w.heap.size + 2, 0, none⟩) (by go_simp)).trans (by go_simp)
  have lb3_25 : w.heap.size + 3 < w18.heap.size := Nat.lt_of_lt_of_le (by go_simp) hb18.size
  have yb3_0_25 : w18.cell? ⟨w.heap.size + 3, 0, none⟩ = some (.int .i64 dx) := (hb18.cell (p := ⟨w.heap.size + 3, 0, none⟩) (by go_simp)).trans (by go_simp)
  have yb3_1_25 : w18.cell? ⟨w.heap.size + 3, 1, none⟩ = some (.int .i64 dy) := (hb18.cell (p := ⟨w.heap.size + 3, 1, none⟩) (by go_simp)).trans (by go_simp)
  have lb4_25 : bF4 < w18.heap.size := Nat.lt_of_lt_of_le (by go_simp) hb18.size
  have yb4_0_25 : w18.cell? ⟨bF4, 0, none⟩ = some (.slice V9 (combR gs ts xs ys tt dx dy).1.length c9) := (hb18.cell (p := ⟨bF4, 0, none⟩) (by go_simp)).trans (by go_simp)
  have lb5_25 : w11.heap.size < w18.heap.size := Nat.lt_of_lt_of_le (by go_simp) hb18.size
  have yb5_0_25 : w18.cell? ⟨w11.heap.size, 0, none⟩ = some (.slice G11 n n) := (hb18.cell (p := ⟨w11.heap.size, 0, none⟩) (by go_simp)).trans (by go_simp)
  have yb5_1_25 : w18.cell? ⟨w11.heap.size, 1, none⟩ = some (.slice T11 m m) := (hb18.cell (p := ⟨w11.heap.size, 1, none⟩) (by go_simp)).trans (by go_simp)
  have lb6_25 : w12.heap.size < w18.heap.size := Nat.lt_of_lt_of_le (by go_simp) hb18.size
  have yb6_0_25 : w18.cell? ⟨w12.heap.size, 0, none⟩ = some (.slice A12 q q) := (hb18.cell (p := ⟨w12.heap.size, 0, none⟩) (by go_simp)).trans (by go_simp)
  have lb7_25 : w13.heap.size < w18.heap.size := Nat.lt_of_lt_of_le (by go_simp) hb18.size
  have yb7_0_25 : w18.cell? ⟨w13.heap.size, 0, none⟩ = some (.slice A13 nb nb) := (hb18.cell (p := ⟨w13.heap.size, 0, none⟩) (by go_simp)).trans (by go_simp)
  clear yb7_0_19 lb7_19 yb6_0_19 lb6_19 yb5_1_19 yb5_0_19 lb5_19 yb4_0_19 lb4_19 yb3_1_19 yb3_0_19 lb3_19 yb2_0_19 lb2_19 yb1_0_19 lb1_19 yb0_1_19 yb0_0_19 lb0_19 kc13_19 kc12_19 kc11_19 krV4_19 kw_19 s25
  clear hV hb18
  have krV15 : Below w18.heap.size w18 w18 := bl_refl _
  go_wp2_with fail
  refine (eqAssembly_same _ _ _ _ _ (combR gs ts xs ys tt dx dy).1 _ ((rdPl vV17_0H.out).below RPl.stable bk_) ((rdPl vV9_0H.out).below RPl.stable bk_) hRl.out).mono ?_
  rintro e w19 ⟨rfl, hb19⟩
  have s26 : w18.heap.size ≤ w19.heap.size := by have := hb19.size; (try simp at this); omega
  have s26H := Lib.hid s26
  have kw_26 : Below w.heap.size w w19 := bl_tr bk_ hb19
  have krV4_26 : Below w10.heap.size w10 w19 := bl_tr bk_ hb19
  have kc11_26 : Below w11.heap.size w11 w19 := bl_tr bk_ hb19
  have kc12_26 : Below w12.heap.size w12 w19 := bl_tr bk_ hb19
  have kc13_26 : Below w13.heap.size w13 w19 := bl_tr bk_ hb19
  have krV15_26 : Below w18.heap.size w18 w19 := bl_tr bk_ hb19
  have lb0_26 : w.heap.size < w19.heap.size := Nat.lt_of_lt_of_le (by go_simp) hb19.size
  have yb0_0_26 : w19.cell? ⟨w.heap.size, 0, none⟩ = some (.slice G n cg) := (hb19.cell (p := ⟨w.heap.size, 0, none⟩) (by go_simp)).trans (by go_simp)
  have yb0_1_26 : w19.cell? ⟨w.heap.size, 1, none⟩ = some (.slice T m ct) := (hb19.cell (p := ⟨w.heap.size, 1, none⟩) (by go_simp)).trans (by go_simp)
  have lb1_26 : w.heap.size + 1 < w19.heap.size := Nat.lt_of_lt_of_le (by go_simp) hb19.size
  have yb1_0_26 : w19.cell? ⟨w.heap.size + 1, 0, none⟩ = some (.slice A q ca) := (hb19.cell (p := ⟨w.heap.size + 1, 0, none⟩) (by go_simp)).trans (by go_simp)
  have lb2_26 : w.heap.size + 2 < w19.heap.size := Nat.lt_of_lt_of_le (by go_simp) hb19.size
  have yb2_0_26 : w19.cell? ⟨w.heap.size + 2, 0, none⟩ = some (.slice C nb cb) := (hb19.cell (p := ⟨w.heap.size + 2, 0, none⟩) (by go_simp)).trans (by go_simp)
  have lb3_26 : w.heap.size + 3 < w19.heap.size := Nat.lt_of_lt_of_le (by go_simp) hb19.size
  have yb3_0_26 : w19.cell? ⟨w.heap.size + 3, 0, none⟩ = some (.int .i64 dx) := (hb19.cell (p := ⟨w.heap.size + 3, 0, none⟩) (by go_simp)).trans (by go_simp)
  have yb3_1_26 : w19.cell? ⟨w.heap.size + 3, 1, none⟩ = some (.int .i64 dy) := (hb19.cell (p := ⟨w.heap.size + 3, 1, none⟩) (by go_simp)).trans (by go_simp)
  have lb4_26 : bF4 < w19.heap.size := Nat.lt_of_lt_of_le (by go_simp) hb19.size
  have yb4_0_26 : w19.cell? ⟨bF4, 0, none⟩ = some (.slice V9 (combR gs ts xs ys tt dx dy).1.length c9) := (hb19.cell (p := ⟨bF4, 0, none⟩) (by go_simp)).trans (by go_simp)
  have lb5_26 : w11.heap.size < w19.heap.size := Nat.lt_of_lt_of_le (by go_simp) hb19.size
  have yb5_0_26 : w19.cell? ⟨w11.heap.size, 0, none⟩ = some (.slice G11 n n) := (hb19.cell (p := ⟨w11.heap.size, 0, none⟩) (by go_simp)).trans (by go_simp)
  have yb5_1_26 : w19.cell? ⟨w11.heap.size, 1, none⟩ = some (.slice T11 m m) := (hb19.cell (p := ⟨w11.heap.size, 1, none⟩) (by go_simp)).trans (by go_simp)
  have lb6_26 : w12.heap.size < w19.heap.size := Nat.lt_of_lt_of_le (by go_simp) hb19.size
  have yb6_0_26 : w19.cell? ⟨w12.heap.size, 0, none⟩ = some (.slice A12 q q) := (hb19.cell (p := ⟨w12.heap.size, 0, none⟩) (by go_simp)).trans (by go_simp)
  have lb7_26 : w13.heap.size < w19.heap.size := Nat.lt_of_lt_of_le (by go_simp) hb19.size
  have yb7_0_26 : w19.cell? ⟨w13.heap.size, 0, none⟩ = some (.slice A13 nb nb) := (hb19.cell (p := ⟨w13.heap.size, 0, none⟩) (by go_simp)).trans (by go_simp)
  have lb8_26 : bF15 < w19.heap.size := Nat.lt_of_lt_of_le (by go_simp) hb19.size
  have yb8_0_26 : w19.cell? ⟨bF15, 0, none⟩ = some (.slice V17 (combR gs ts xs ys tt dx dy).1.length c17) := (hb19.cell (p := ⟨bF15, 0, none⟩) (by go_simp)).trans (by go_simp)
  clear yg15_0 lg15 yb7_0_25 lb7_25 yb6_0_25 lb6_25 yb5_1_25 yb5_0_25 lb5_25 yb4_0_25 lb4_25 yb3_1_25 yb3_0_25 lb3_25 yb2_0_25 lb2_25 yb1_0_25 lb1_25 yb0_1_25 yb0_0_25 lb0_25 krV15 kc13_25 kc12_25 kc11_25 krV4_25 kw_25 s26
  clear hb19
  go_wp2_with fail
  refine wp_region_ord [(0, .q), (1, .q), (2, .g), (3, .g), (4, .q)] (by kernel_rfl) (by kernel_rfl) ?_
  simp only [pick, List.filterMap_cons, List.filterMap_nil, List.getElem?_toArray, List.getElem?_cons_zero, List.getElem?_cons_succ, Option.map_some]
  repeat (first | ((with_reducible refine wpD_p (fun K hK => ?_)); go_simp; refine hK _ ?_; clear hK K) | ((with_reducible refine wpD_q (fun K hK => ?_)); go_simp; (first | refine hK _ ?_ | (go_bits; refine hK _ ?_) | (go_bits; go_simp; refine hK _ ?_)); clear hK K))
  with_reducible refine wpD_g (fun K hK => ?_)
  go_simp
  refine (toTileSet_any _ _ _ _ _ _ gs ts _ (hG.below RGl.stable bk_) (hT.below RTi.stable bk_) (by omega) (by omega) htsH.out).mono ?_
  rintro e w20 ⟨G20, T20, rfl, o20, p20, hb20⟩
  refine ⟨_, rfl, hb20, hK _ _ ?_⟩
  clear hK K
  have s27 : w19.heap.size ≤ w20.heap.size := by have := hb20.size; (try simp at this); omega
  have s27H := Lib.hid s27
  have kw_27 : Below w.heap.size w w20 := bl_tr bk_ hb20
  have krV4_27 : Below w10.heap.size w10 w20 := bl_tr bk_ hb20
  have kc11_27 : Below w11.heap.size w11 w20 := bl_tr bk_ hb20
  have kc12_27 : Below w12.heap.size w12 w20 := bl_tr bk_ hb20
  have kc13_27 : Below w13.heap.size w13 w20 := bl_tr bk_ hb20
  have krV15_27 : Below w18.heap.size w18 w20 := bl_tr bk_ hb20
  have lb0_27 : w.heap.size < w20.heap.size := Nat.lt_of_lt_of_le (by go_simp) hb20.size
  have yb0_0_27 : w20.cell? ⟨w.heap.size, 0, none⟩ = some (.slice G n cg) := (hb20.cell (p := ⟨w.heap.size, 0, none⟩) (by go_simp)).trans (by go_simp)
  have yb0_1_27 : w20.cell? ⟨w.heap.size, 1, none⟩ = some (.slice T m ct) := (hb20.cell (p := ⟨w.heap.size, 1, none⟩) (by go_simp)).trans (by go_simp)
  have lb1_27 : w.heap.size + 1 < w20.heap.size := Nat.lt_of_lt_of_le (by go_simp) hb20.size
  have yb1_0_27 : w20.cell? ⟨w.heap.size + 1, 0, none⟩ = some (.slice A q ca) := (hb20.cell (p := ⟨w.heap.size + 1, 0, none⟩) (by go_simp)).trans (by go_simp)
  have lb2_27 : w.heap.size + 2 < w20.heap.size := Nat.lt_of_lt_of_le (by go_simp) hb20.size
  have yb2_0_27 : w20.cell? ⟨w.heap.size + 2, 0, none⟩ = some (.slice C nb cb) := (hb20.cell (p := ⟨w.heap.size + 2, 0, none⟩) (by go_simp)).trans (by go_simp)
  have lb3_27 : w.heap.size + 3 < w20.heap.size := Nat.lt_of_lt_of_le (by go_simp) hb20.size
  have yb3_0_27 : w20.cell? ⟨w.heap.size + 3, 0, none⟩ = some (.int .i64 dx) := (hb20.cell (p := ⟨w.heap.size + 3, 0, none⟩) (by go_simp)).trans (by go_simp)
  have yb3_1_27 : w20.cell? ⟨w.heap.size + 3, 1, none⟩ = some (.int .i64 dy) := (hb20.cell (p := ⟨w.heap.size + 3, 1, none⟩) (by go_simp)).trans (by go_simp)
  have lb4_27 : bF4 < w20.heap.size := Nat.lt_of_lt_of_le (by go_simp) hb20.size
  have yb4_0_27 : w20.cell? ⟨bF4, 0, none⟩ = some (.slice V9 (combR gs ts xs ys tt dx dy).1.length c9) := (hb20.cell (p := ⟨bF4, 0, none⟩) (by go_simp)).trans (by go_simp)
  have lb5_27 : w11.heap.size < w20.heap.size := Nat.lt_of_lt_of_le (by go_simp) hb20.size
  have yb5_0_27 : w20.cell? ⟨w11.heap.size, 0, none⟩ = some (.slice G11 n n) := (hb20.cell (p := ⟨w11.heap.size, 0, none⟩) (by go_simp)).trans (by go_simp)
  have yb5_1_27 : w20.cell? ⟨w11.heap.size, 1, none⟩ = some (.slice T11 m m) := (hb20.cell (p := ⟨w11.heap.size, 1, none⟩) (by go_simp)).trans (by go_simp)
  have lb6_27 : w12.heap.size < w20.heap.size := Nat.lt_of_lt_of_le (by go_simp) hb20.size
  have yb6_0_27 : w20.cell? ⟨w12.heap.size, 0, none⟩ = some (.slice A12 q q) := (hb20.cell (p := ⟨w12.heap.size, 0, none⟩) (by go_simp)).trans (by go_simp)
  have lb7_27 : w13.heap.size < w20.heap.size := Nat.lt_of_lt_of_le (by go_simp) hb20.size
  have yb7_0_27 : w20.cell? ⟨w13.heap.size, 0, none⟩ = some (.slice A13 nb nb) := (hb20.cell (p := ⟨w13.heap.size, 0, none⟩) (by go_simp)).trans (by go_simp)
  have lb8_27 : bF15 < w20.heap.size := Nat.lt_of_lt_of_le (by go_simp) hb20.size
  have yb8_0_27 : w20.cell? ⟨bF15, 0, none⟩ = some (.slice V17 (combR gs ts xs ys tt dx dy).1.length c17) := (hb20.cell (p := ⟨bF15, 0, none⟩) (by go_simp)).trans (by go_simp)
  clear yb8_0_26 lb8_26 yb7_0_26 lb7_26 yb6_0_26 lb6_26 yb5_1_26 yb5_0_26 lb5_26 yb4_0_26 lb4_26 yb3_1_26 yb3_0_26 lb3_26 yb2_0_26 lb2_26 yb1_0_26 lb1_26 yb0_1_26 yb0_0_26 lb0_26 krV15_26 kc13_26 kc12_26 kc11_26 krV4_26 kw_26 s27
  clear hb20
  have kc20 : Below w20.heap.size w20 w20 := bl_refl _
  have o20H := Lib.hid o20
  clear o20
  have p20H := Lib.hid p20
  clear p20
  with_reducible refine wpD_g (fun K hK => ?_)
  go_simp
  refine (eqTileSet_same _ _ _ _ _ _ _ _ _ _ gs ts _ (o11H.out.rd.below RGl.stable bk_) (o20H.out.rd.below RGl.stable bk_) (p11H.out.rdTi.below RTi.stable bk_) (p20H.out.rdTi.below RTi.stable bk_) (by omega) (by omega) htsH.out).mono ?_
  rintro e w21 ⟨rfl, hb21⟩
  refine ⟨_, rfl, hb21, hK _ _ ?_⟩
  clear hK K
  have s28 : w20.heap.size ≤ w21.heap.size := by have := hb21.size; (try simp at this); omega
  have s28H := Lib.hid s28
  have kw_28 : Below w.heap.size w w21 := bl_tr bk_ hb21
  have krV4_28 : Below w10.heap.size w10 w21 := bl_tr bk_ hb21
  have kc11_28 : Below w11.heap.size w11 w21 := bl_tr bk_ hb21
  have kc12_28 : Below w12.heap.size w12 w21 := bl_tr bk_ hb21
  have kc13_28 : Below w13.heap.size w13 w21 := bl_tr bk_ hb21
  have krV15_28 : Below w18.heap.size w18 w21 := bl_tr bk_ hb21
  have kc20_28 : Below w20.heap.size w20 w21 := bl_tr bk_ hb21
  have lb0_28 : w.heap.size < w21.heap.size := Nat.lt_of_lt_of_le (by go_simp) hb21.size
  have yb0_0_28 : w21.cell? ⟨w.heap.size, 0, none⟩ = some (.slice G n cg) := (hb21.cell (p := ⟨w.heap.size, 0, none⟩) (by go_simp)).trans (by go_simp)
  have yb0_1_28 : w21.cell? ⟨w.heap.size, 1, none⟩ = some (.slice T m ct) := (hb21.cell (p := ⟨w.heap.size, 1, none⟩) (by go_simp)).trans (by go_simp)
  have lb1_28 : w.heap.size + 1 < w21.heap.size := Nat.lt_of_lt_of_le (by go_simp) hb21.size
  have yb1_0_28 : w21.cell? ⟨w.heap.size + 1, 0, none⟩ = some (.slice A q ca) := (hb21.cell (p := ⟨w.heap.size + 1, 0, none⟩) (by go_simp)).trans (by go_simp)
  have lb2_28 : w.heap.size + 2 < w21.heap.size := Nat.lt_of_lt_of_le (by go_simp) hb21.size
  have yb2_0_28 : w21.cell? ⟨w.heap.size + 2, 0, none⟩ = some (.slice C nb cb) := (hb21.cell (p := ⟨w.heap.size + 2, 0, none⟩) (by go_simp)).trans (by go_simp)
  have lb3_28 : w.heap.size + 3 < w21.heap.size := Nat.lt_of_lt_of_le (by go_simp) hb21.size
  have yb3_0_28 : w21.cell? ⟨w.heap.size + 3, 0, none⟩ = some (.int .i64 dx) := (hb21.cell (p := ⟨w.heap.size + 3, 0, none⟩) (by go_simp)).trans (by go_simp)
  have yb3_1_28 : w21.cell? ⟨w.heap.size + 3, 1, none⟩ = some (.int .i64 dy) := (hb21.cell (p := ⟨w.heap.size + 3, 1, none⟩) (by go_simp)).trans (by go_simp)
  have lb4_28 : bF4 < w21.heap.size := Nat.lt_of_lt_of_le (by go_simp) hb21.size
  have yb4_0_28 : w21.cell? ⟨bF4, 0, none⟩ = some (.slice V9 (combR gs ts xs ys tt dx dy).1.length c9) := (hb21.cell (p := ⟨bF4, 0, none⟩) (by go_simp)).trans (by go_simp)
  have lb5_28 : w11.heap.size < w21.heap.size := Nat.lt_of_lt_of_le (by go_simp) hb21.size
  have yb5_0_28 : w21.cell? ⟨w11.heap.size, 0, none⟩ = some (.slice G11 n n) := (hb21.cell (p := ⟨w11.heap.size, 0, none⟩) (by go_simp)).trans (by go_simp)
  have yb5_1_28 : w21.cell? ⟨w11.heap.size, 1, none⟩ = some (.slice T11 m m) := (hb21.cell (p := ⟨w11.heap.size, 1, none⟩) (by go_simp)).trans (by go_simp)
  have lb6_28 : w12.heap.size < w21.heap.size := Nat.lt_of_lt_of_le (by go_simp) hb21.size
  have yb6_0_28 : w21.cell? ⟨w12.heap.size, 0, none⟩ = some (.slice A12 q q) := (hb21.cell (p := ⟨w12.heap.size, 0, none⟩) (by go_simp)).trans (by go_simp)
  have lb7_28 : w13.heap.size < w21.heap.size := Nat.lt_of_lt_of_le (by go_simp) hb21.size
  have yb7_0_28 : w21.cell? ⟨w13.heap.size, 0, none⟩ = some (.slice A13 nb nb) := (hb21.cell (p := ⟨w13.heap.size, 0, none⟩) (by go_simp)).trans (by go_simp)
  have lb8_28 : bF15 < w21.heap.size := Nat.lt_of_lt_of_le (by go_simp) hb21.size
  have yb8_0_28 : w21.cell? ⟨bF15, 0, none⟩ = some (.slice V17 (combR gs ts xs ys tt dx dy).1.length c17) := (hb21.cell (p := ⟨bF15, 0, none⟩) (by go_simp)).trans (by go_simp)
  clear yb8_0_27 lb8_27 yb7_0_27 lb7_27 yb6_0_27 lb6_27 yb5_1_27 yb5_0_27 lb5_27 yb4_0_27 lb4_27 yb3_1_27 yb3_0_27 lb3_27 yb2_0_27 lb2_27 yb1_0_27 lb1_27 yb0_1_27 yb0_0_27 lb0_27 kc20 krV15_27 kc13_27 kc12_27 kc11_27 krV4_27 kw_27 s28
  clear hb21
  repeat (first | ((with_reducible refine wpD_p (fun K hK => ?_)); go_simp; refine hK _ ?_; clear hK K) | ((with_reducible refine wpD_q (fun K hK => ?_)); go_simp; (first | refine hK _ ?_ | (go_bits; refine hK _ ?_) | (go_bits; go_simp; refine hK _ ?_)); clear hK K))
  with_reducible refine wpD_nil ?_
  go_wp2_with fail
  refine wp_region_ord [(0, .q), (1, .q), (2, .g), (3, .g), (4, .q)] (by kernel_rfl) (by kernel_rfl) ?_
  simp only [pick, List.filterMap_cons, List.filterMap_nil, List.getElem?_toArray, List.getElem?_cons_zero, List.getElem?_cons_succ, Option.map_some]
  repeat (first | ((with_reducible refine wpD_p (fun K hK => ?_)); go_simp; refine hK _ ?_; clear hK K) | ((with_reducible refine wpD_q (fun K hK => ?_)); go_simp; (first | refine hK _ ?_ | (go_bits; refine hK _ ?_) | (go_bits; go_simp; refine hK _ ?_)); clear hK K))
  with_reducible refine wpD_g (fun K hK => ?_)
  go_simp
  refine (toAssembly_any _ _ _ xs _ (hA.below RPl.stable bk_) (by omega)).mono ?_
  rintro e w22 ⟨A22, rfl, o22, hb22⟩
  refine ⟨_, rfl, hb22, hK _ _ ?_⟩
  clear hK K
  have s29 : w21.heap.size ≤ w22.heap.size := by have := hb22.size; (try simp at this); omega
  have s29H := Lib.hid s29
  have kw_29 : Below w.heap.size w w22 := bl_tr bk_ hb22
  have krV4_29 : Below w10.heap.size w10 w22 := bl_tr bk_ hb22
  have kc11_29 : Below w11.heap.size w11 w22 := bl_tr bk_ hb22
  have kc12_29 : Below w12.heap.size w12 w22 := bl_tr bk_ hb22
  have kc13_29 : Below w13.heap.size w13 w22 := bl_tr bk_ hb22
  have krV15_29 : Below w18.heap.size w18 w22 := bl_tr bk_ hb22
  have kc20_29 : Below w20.heap.size w20 w22 := bl_tr bk_ hb22
  have lb0_29 : w.heap.size < w22.heap.size := Nat.lt_of_lt_of_le (by go_simp) hb22.size
  have yb0_0_29 : w22.cell? ⟨w.heap.size, 0, none⟩ = some (.slice G n cg) := (hb22.cell (p := ⟨w.heap.size, 0, none⟩) (by go_simp)).trans (by go_simp)
  have yb0_1_29 : w22.cell? ⟨w.heap.size, 1, none⟩ = some (.slice T m ct) := (hb22.cell (p := ⟨w.heap.size, 1, none⟩) (by go_simp)).trans (by go_simp)
  have lb1_29 : w.heap.size + 1 < w22.heap.size := Nat.lt_of_lt_of_le (by go_simp) hb22.size
  have yb1_0_29 : w22.cell? ⟨w.heap.size + 1, 0, none⟩ = some (.slice A q ca) := (hb22.cell (p := ⟨w.heap.size + 1, 0, none⟩) (by go_simp)).trans (by go_simp)
  have lb2_29 : w.heap.size + 2 < w22.heap.size := Nat.lt_of_lt_of_le (by go_simp) hb22.size
  have yb2_0_29 : w22.cell? ⟨w.heap.size + 2, 0, none⟩ = some (.slice C nb cb) := (hb22.cell (p := ⟨w.heap.size + 2, 0, none⟩) (by go_simp)).trans (by go_simp)
  have lb3_29 : w.heap.size + 3 < w22.heap.size := Nat.lt_of_lt_of_le (by go_simp) hb22.size
  have yb3_0_29 : w22.cell? ⟨w.heap.size + 3, 0, none⟩ = some (.int .i64 dx) := (hb22.cell (p := ⟨w.heap.size + 3, 0, none⟩) (by go_simp)).trans (by go_simp)
  have yb3_1_29 : w22.cell? ⟨w.heap.size + 3, 1, none⟩ = some (.int .i64 dy) := (hb22.cell (p := ⟨w.heap.size + 3, 1, none⟩) (by go_simp)).trans (by go_simp)
  have lb4_29 : bF4 < w22.heap.size := Nat.lt_of_lt_of_le (by go_simp) hb22.size
  have yb4_0_29 : w22.cell? ⟨bF4, 0, none⟩ = some (.slice V9 (combR gs ts xs ys tt dx dy).1.length c9) := (hb22.cell (p := ⟨bF4, 0, none⟩) (by go_simp)).trans (by go_simp)
  have lb5_29 : w11.heap.size < w22.heap.size := Nat.lt_of_lt_of_le (by go_simp) hb22.size
  have yb5_0_29 : w22.cell? ⟨w11.heap.size, 0, none⟩ = some (.slice G11 n n) := (hb22.cell (p := ⟨w11.heap.size, 0, none⟩) (by go_simp)).trans (by go_simp)
  have yb5_1_29 : w22.cell? ⟨w11.heap.size, 1, none⟩ = some (.slice T11 m m) := (hb22.cell (p := ⟨w11.heap.size, 1, none⟩) (by go_simp)).trans (by go_simp)
  have lb6_29 : w12.heap.size < w22.heap.size := Nat.lt_of_lt_of_le (by go_simp) hb22.size
  have yb6_0_29 : w22.cell? ⟨w12.heap.size, 0, none⟩ = some (.slice A12 q q) := (hb22.cell (p := ⟨w12.heap.size, 0, none⟩) (by go_simp)).trans (by go_simp)
  have lb7_29 : w13.heap.size < w22.heap.size := Nat.lt_of_lt_of_le (by go_simp) hb22.size
  have yb7_0_29 : w22.cell? ⟨w13.heap.size, 0, none⟩ = some (.slice A13 nb nb) := (hb22.cell (p := ⟨w13.heap.size, 0, none⟩) (by go_simp)).trans (by go_simp)
  have lb8_29 : bF15 < w22.heap.size := Nat.lt_of_lt_of_le (by go_simp) hb22.size
  have yb8_0_29 : w22.cell? ⟨bF15, 0, none⟩ = some (.slice V17 (combR gs ts xs ys tt dx dy).1.length c17) := (hb22.cell (p := ⟨bF15, 0, none⟩) (by go_simp)).trans (by go_simp)
  clear yb8_0_28 lb8_28 yb7_0_28 lb7_28 yb6_0_28 lb6_28 yb5_1_28 yb5_0_28 lb5_28 yb4_0_28 lb4_28 yb3_1_28 yb3_0_28 lb3_28 yb2_0_28 lb2_28 yb1_0_28 lb1_28 yb0_1_28 yb0_0_28 lb0_28 kc20_28 krV15_28 kc13_28 kc12_28 kc11_28 krV4_28 kw_28 s29
  clear hb22
  have kc22 : Below w22.heap.size w22 w22 := bl_refl _
  have o22H := Lib.hid o22
  clear o22
  with_reducible refine wpD_g (fun K hK => ?_)
  go_simp
  refine (eqAssembly_same _ _ _ _ _ xs _ (o12H.out.rd.below RPl.stable bk_) (o22H.out.rd.below RPl.stable bk_) (by omega)).mono ?_
  rintro e w23 ⟨rfl, hb23⟩
  refine ⟨_, rfl, hb23, hK _ _ ?_⟩
  clear hK K
  have s30 : w22.heap.size ≤ w23.heap.size := by have := hb23.size; (try simp at this); omega
  have s30H := Lib.hid s30
  have kw_30 : Below w.heap.size w w23 := bl_tr bk_ hb23
  have krV4_30 : Below w10.heap.size w10 w23 := bl_tr bk_ hb23
  have kc11_30 : Below w11.heap.size w11 w23 := bl_tr bk_ hb23
  have kc12_30 : Below w12.heap.size w12 w23 := bl_tr bk_ hb23
  have kc13_30 : Below w13.heap.size w13 w23 := bl_tr bk_ hb23
  have krV15_30 : Below w18.heap.size w18 w23 := bl_tr bk_ hb23
  have kc20_30 : Below w20.heap.size w20 w23 := bl_tr bk_ hb23
  have kc22_30 : Below w22.heap.size w22 w23 := bl_tr bk_ hb23
  have lb0_30 : w.heap.size < w23.heap.size := Nat.lt_of_lt_of_le (by go_simp) hb23.size
  have yb0_0_30 : w23.cell? ⟨w.heap.size, 0, none⟩ = some (.slice G n cg) := (hb23.cell (p := ⟨w.heap.size, 0, none⟩) (by go_simp)).trans (by go_simp)
  have yb0_1_30 : w23.cell? ⟨w.heap.size, 1, none⟩ = some (.slice T m ct) := (hb23.cell (p := ⟨w.heap.size, 1, none⟩) (by go_simp)).trans (by go_simp)
  have lb1_30 : w.heap.size + 1 < w23.heap.size := Nat.lt_of_lt_of_le (by go_simp) hb23.size
  have yb1_0_30 : w23.cell? ⟨w.heap.size + 1, 0, none⟩ = some (.slice A q ca) := (hb23.cell (p := ⟨w.heap.size + 1, 0, none⟩) (by go_simp)).trans (by go_simp)
  have lb2_30 : w.heap.size + 2 < w23.heap.size := Nat.lt_of_lt_of_le (by go_simp) hb23.size
  have yb2_0_30 : w23.cell? ⟨w.heap.size + 2, 0, none⟩ = some (.slice C nb cb) := (hb23.cell (p := ⟨w.heap.size + 2, 0, none⟩) (by go_simp)).trans (by go_simp)
  have lb3_30 : w.heap.size + 3 < w23.heap.size := Nat.lt_of_lt_of_le (by go_simp) hb23.size
  have yb3_0_30 : w23.cell? ⟨w.heap.size + 3, 0, none⟩ = some (.int .i64 dx) := (hb23.cell (p := ⟨w.heap.size + 3, 0, none⟩) (by go_simp)).trans (by go_simp)
  have yb3_1_30 : w23.cell? ⟨w.heap.size + 3, 1, none⟩ = some (.int .i64 dy) := (hb23.cell (p := ⟨w.heap.size + 3, 1, none⟩) (by go_simp)).trans (by go_simp)
  have lb4_30 : bF4 < w23.heap.size := Nat.lt_of_lt_of_le (by go_simp) hb23.size
  have yb4_0_30 : w23.cell? ⟨bF4, 0, none⟩ = some (.slice V9 (combR gs ts xs ys tt dx dy).1.length c9) := (hb23.cell (p := ⟨bF4, 0, none⟩) (by go_simp)).trans (by go_simp)
  have lb5_30 : w11.heap.size < w23.heap.size := Nat.lt_of_lt_of_le (by go_simp) hb23.size
  have yb5_0_30 : w23.cell? ⟨w11.heap.size, 0, none⟩ = some (.slice G11 n n) := (hb23.cell (p := ⟨w11.heap.size, 0, none⟩) (by go_simp)).trans (by go_simp)
  have yb5_1_30 : w23.cell? ⟨w11.heap.size, 1, none⟩ = some (.slice T11 m m) := (hb23.cell (p := ⟨w11.heap.size, 1, none⟩) (by go_simp)).trans (by go_simp)
  have lb6_30 : w12.heap.size < w23.heap.size := Nat.lt_of_lt_of_le (by go_simp) hb23.size
  have yb6_0_30 : w23.cell? ⟨w12.heap.size, 0, none⟩ = some (.slice A12 q q) := (hb23.cell (p := ⟨w12.heap.size, 0, none⟩) (by go_simp)).trans (by go_simp)
  have lb7_30 : w13.heap.size < w23.heap.size := Nat.lt_of_lt_of_le (by go_simp) hb23.size
  have yb7_0_30 : w23.cell? ⟨w13.heap.size, 0, none⟩ = some (.slice A13 nb nb) := (hb23.cell (p := ⟨w13.heap.size, 0, none⟩) (by go_simp)).trans (by go_simp)
  have lb8_30 : bF15 < w23.heap.size := Nat.lt_of_lt_of_le (by go_simp) hb23.size
  have yb8_0_30 : w23.cell? ⟨bF15, 0, none⟩ = some (.slice V17 (combR gs ts xs ys tt dx dy).1.length c17) := (hb23.cell (p := ⟨bF15, 0, none⟩) (by go_simp)).trans (by go_simp)
  clear yb8_0_29 lb8_29 yb7_0_29 lb7_29 yb6_0_29 lb6_29 yb5_1_29 yb5_0_29 lb5_29 yb4_0_29 lb4_29 yb3_1_29 yb3_0_29 lb3_29 yb2_0_29 lb2_29 yb1_0_29 lb1_29 yb0_1_29 yb0_0_29 lb0_29 kc22 kc20_29 krV15_29 kc13_29 kc12_29 kc11_29 krV4_29 kw_29 s30
  clear hb23
  repeat (first | ((with_reducible refine wpD_p (fun K hK => ?_)); go_simp; refine hK _ ?_; clear hK K) | ((with_reducible refine wpD_q (fun K hK => ?_)); go_simp; (first | refine hK _ ?_ | (go_bits; refine hK _ ?_) | (go_bits; go_simp; refine hK _ ?_)); clear hK K))
  with_reducible refine wpD_nil ?_
  go_wp2_with fail
  refine wp_region_ord [(0, .q), (1, .q), (2, .g), (3, .g), (4, .q)] (by kernel_rfl) (by kernel_rfl) ?_
  simp only [pick, List.filterMap_cons, List.filterMap_nil, List.getElem?_toArray, List.getElem?_cons_zero, List.getElem?_cons_succ, Option.map_some]
  repeat (first | ((with_reducible refine wpD_p (fun K hK => ?_)); go_simp; refine hK _ ?_; clear hK K) | ((with_reducible refine wpD_q (fun K hK => ?_)); go_simp; (first | refine hK _ ?_ | (go_bits; refine hK _ ?_) | (go_bits; go_simp; refine hK _ ?_)); clear hK K))
  with_reducible refine wpD_g (fun K hK => ?_)
  go_simp
  refine (toAssembly_any _ _ _ ys _ (hC.below RPl.stable bk_) (by omega)).mono ?_
  rintro e w24 ⟨A24, rfl, o24, hb24⟩
  refine ⟨_, rfl, hb24, hK _ _ ?_⟩
  clear hK K
  have s31 : w23.heap.size ≤ w24.heap.size := by have := hb24.size; (try simp at this); omega
  have s31H := Lib.hid s31
  have kw_31 : Below w.heap.size w w24 := bl_tr bk_ hb24
  have krV4_31 : Below w10.heap.size w10 w24 := bl_tr bk_ hb24
  have kc11_31 : Below w11.heap.size w11 w24 := bl_tr bk_ hb24
  have kc12_31 : Below w12.heap.size w12 w24 := bl_tr bk_ hb24
  have kc13_31 : Below w13.heap.size w13 w24 := bl_tr bk_ hb24
  have krV15_31 : Below w18.heap.size w18 w24 := bl_tr bk_ hb24
  have kc20_31 : Below w20.heap.size w20 w24 := bl_tr bk_ hb24
  have kc22_31 : Below w22.heap.size w22 w24 := bl_tr bk_ hb24
  have lb0_31 : w.heap.size < w24.heap.size := Nat.lt_of_lt_of_le (by go_simp) hb24.size
  have yb0_0_31 : w24.cell? ⟨w.heap.size, 0, none⟩ = some (.slice G n cg) := (hb24.cell (p := ⟨w.heap.size, 0, none⟩) (by go_simp)).trans (by go_simp)
  have yb0_1_31 : w24.cell? ⟨w.heap.size, 1, none⟩ = some (.slice T m ct) := (hb24.cell (p := ⟨w.heap.size, 1, none⟩) (by go_simp)).trans (by go_simp)
  have lb1_31 : w.heap.size + 1 < w24.heap.size := Nat.lt_of_lt_of_le (by go_simp) hb24.size
  have yb1_0_31 : w24.cell? ⟨w.heap.size + 1, 0, none⟩ = some (.slice A q ca) := (hb24.cell (p := ⟨w.heap.size + 1, 0, none⟩) (by go_simp)).trans (by go_simp)
  have lb2_31 : w.heap.size + 2 < w24.heap.size := Nat.lt_of_lt_of_le (by go_simp) hb24.size
  have yb2_0_31 : w24.cell? ⟨w.heap.size + 2, 0, none⟩ = some (.slice C nb cb) := (hb24.cell (p := ⟨w.heap.size + 2, 0, none⟩) (by go_simp)).trans (by go_simp)
  have lb3_31 : w.heap.size + 3 < w24.heap.size := Nat.lt_of_lt_of_le (by go_simp) hb24.size
  have yb3_0_31 : w24.cell? ⟨w.heap.size + 3, 0, none⟩ = some (.int .i64 dx) := (hb24.cell (p := ⟨w.heap.size + 3, 0, none⟩) (by go_simp)).trans (by go_simp)
  have yb3_1_31 : w24.cell? ⟨w.heap.size + 3, 1, none⟩ = some (.int .i64 dy) := (hb24.cell (p := ⟨w.heap.size + 3, 1, none⟩) (by go_simp)).trans (by go_simp)
  have lb4_31 : bF4 < w24.heap.size := Nat.lt_of_lt_of_le (by go_simp) hb24.size
  have yb4_0_31 : w24.cell? ⟨bF4, 0, none⟩ = some (.slice V9 (combR gs ts xs ys tt dx dy).1.length c9) := (hb24.cell (p := ⟨bF4, 0, none⟩) (by go_simp)).trans (by go_simp)
  have lb5_31 : w11.heap.size < w24.heap.size := Nat.lt_of_lt_of_le (by go_simp) hb24.size
  have yb5_0_31 : w24.cell? ⟨w11.heap.size, 0, none⟩ = some (.slice G11 n n) := (hb24.cell (p := ⟨w11.heap.size, 0, none⟩) (by go_simp)).trans (by go_simp)
  have yb5_1_31 : w24.cell? ⟨w11.heap.size, 1, none⟩ = some (.slice T11 m m) := (hb24.cell (p := ⟨w11.heap.size, 1, none⟩) (by go_simp)).trans (by go_simp)
  have lb6_31 : w12.heap.size < w24.heap.size := Nat.lt_of_lt_of_le (by go_simp) hb24.size
  have yb6_0_31 : w24.cell? ⟨w12.heap.size, 0, none⟩ = some (.slice A12 q q) := (hb24.cell (p := ⟨w12.heap.size, 0, none⟩) (by go_simp)).trans (by go_simp)
  have lb7_31 : w13.heap.size < w24.heap.size := Nat.lt_of_lt_of_le (by go_simp) hb24.size
  have yb7_0_31 : w24.cell? ⟨w13.heap.size, 0, none⟩ = some (.slice A13 nb nb) := (hb24.cell (p := ⟨w13.heap.size, 0, none⟩) (by go_simp)).trans (by go_simp)
  have lb8_31 : bF15 < w24.heap.size := Nat.lt_of_lt_of_le (by go_simp) hb24.size
  have yb8_0_31 : w24.cell? ⟨bF15, 0, none⟩ = some (.slice V17 (combR gs ts xs ys tt dx dy).1.length c17) := (hb24.cell (p := ⟨bF15, 0, none⟩) (by go_simp)).trans (by go_simp)
  clear yb8_0_30 lb8_30 yb7_0_30 lb7_30 yb6_0_30 lb6_30 yb5_1_30 yb5_0_30 lb5_30 yb4_0_30 lb4_30 yb3_1_30 yb3_0_30 lb3_30 yb2_0_30 lb2_30 yb1_0_30 lb1_30 yb0_1_30 yb0_0_30 lb0_30 kc22_30 kc20_30 krV15_30 kc13_30 kc12_30 kc11_30 krV4_30 kw_30 s31
  clear hb24
  have kc24 : Below w24.heap.size w24 w24 := bl_refl _
  have o24H := Lib.hid o24
  clear o24
  with_reducible refine wpD_g (fun K hK => ?_)
  go_simp
  refine (eqAssembly_same _ _ _ _ _ ys _ (o13H.out.rd.below RPl.stable bk_) (o24H.out.rd.below RPl.stable bk_) (by omega)).mono ?_
  rintro e w25 ⟨rfl, hb25⟩
  refine ⟨_, rfl, hb25, hK _ _ ?_⟩
  clear hK K
  have s32 : w24.heap.size ≤ w25.heap.size := by have := hb25.size; (try simp at this); omega
  have s32H := Lib.hid s32
  have kw_32 : Below w.heap.size w w25 := bl_tr bk_ hb25
  have krV4_32 : Below w10.heap.size w10 w25 := bl_tr bk_ hb25
  have kc11_32 : Below w11.heap.size w11 w25 := bl_tr bk_ hb25
  have kc12_32 : Below w12.heap.size w12 w25 := bl_tr bk_ hb25
  have kc13_32 : Below w13.heap.size w13 w25 := bl_tr bk_ hb25
  have krV15_32 : Below w18.heap.size w18 w25 := bl_tr bk_ hb25
  have kc20_32 : Below w20.heap.size w20 w25 := bl_tr bk_ hb25
  have kc22_32 : Below w22.heap.size w22 w25 := bl_tr bk_ hb25
  have kc24_32 : Below w24.heap.size w24 w25 := bl_tr bk_ hb25
  have lb0_32 : w.heap.size < w25.heap.size := Nat.lt_of_lt_of_le (by go_simp) hb25.size
  have yb0_0_32 : w25.cell? ⟨w.heap.size, 0, none⟩ = some (.slice G n cg) := (hb25.cell (p := ⟨w.heap.size, 0, none⟩) (by go_simp)).trans (by go_simp)
  have yb0_1_32 : w25.cell? ⟨w.heap.size, 1, none⟩ = some (.slice T m ct) := (hb25.cell (p := ⟨w.heap.size, 1, none⟩) (by go_simp)).trans (by go_simp)
  have lb1_32 : w.heap.size + 1 < w25.heap.size := Nat.lt_of_lt_of_le (by go_simp) hb25.size
  have yb1_0_32 : w25.cell? ⟨w.heap.size + 1, 0, none⟩ = some (.slice A q ca) := (hb25.cell (p := ⟨w.heap.size + 1, 0, none⟩) (by go_simp)).trans (by go_simp)
  have lb2_32 : w.heap.size + 2 < w25.heap.size := Nat.lt_of_lt_of_le (by go_simp) hb25.size
  have yb2_0_32 : w25.cell? ⟨w.heap.size + 2, 0, none⟩ = some (.slice C nb cb) := (hb25.cell (p := ⟨w.heap.size + 2, 0, none⟩) (by go_simp)).trans (by go_simp)
  have lb3_32 : w.heap.size + 3 < w25.heap.size := Nat.lt_of_lt_of_le (by go_simp) hb25.size
  have yb3_0_32 : w25.cell? ⟨w.heap.size + 3, 0, none⟩ = some (.int .i64 dx) := (hb25.cell (p := ⟨w.heap.size + 3, 0, none⟩) (by go_simp)).trans (by go_simp)
  have yb3_1_32 : w25.cell? ⟨w.heap.size + 3, 1, none⟩ = some (.int .i64 dy) := (hb25.cell (p := ⟨w.heap.size + 3, 1, none⟩) (by go_simp)).trans (by go_simp)
  have lb4_32 : bF4 < w25.heap.size := Nat.lt_of_lt_of_le (by go_simp) hb25.size
  have yb4_0_32 : w25.cell? ⟨bF4, 0, none⟩ = some (.slice V9 (combR gs ts xs ys tt dx dy).1.length c9) := (hb25.cell (p := ⟨bF4, 0, none⟩) (by go_simp)).trans (by go_simp)
  have lb5_32 : w11.heap.size < w25.heap.size := Nat.lt_of_lt_of_le (by go_simp) hb25.size
  have yb5_0_32 : w25.cell? ⟨w11.heap.size, 0, none⟩ = some (.slice G11 n n) := (hb25.cell (p := ⟨w11.heap.size, 0, none⟩) (by go_simp)).trans (by go_simp)
  have yb5_1_32 : w25.cell? ⟨w11.heap.size, 1, none⟩ = some (.slice T11 m m) := (hb25.cell (p := ⟨w11.heap.size, 1, none⟩) (by go_simp)).trans (by go_simp)
  have lb6_32 : w12.heap.size < w25.heap.size := Nat.lt_of_lt_of_le (by go_simp) hb25.size
  have yb6_0_32 : w25.cell? ⟨w12.heap.size, 0, none⟩ = some (.slice A12 q q) := (hb25.cell (p := ⟨w12.heap.size, 0, none⟩) (by go_simp)).trans (by go_simp)
  have lb7_32 : w13.heap.size < w25.heap.size := Nat.lt_of_lt_of_le (by go_simp) hb25.size
  have yb7_0_32 : w25.cell? ⟨w13.heap.size, 0, none⟩ = some (.slice A13 nb nb) := (hb25.cell (p := ⟨w13.heap.size, 0, none⟩) (by go_simp)).trans (by go_simp)
  have lb8_32 : bF15 < w25.heap.size := Nat.lt_of_lt_of_le (by go_simp) hb25.size
  have yb8_0_32 : w25.cell? ⟨bF15, 0, none⟩ = some (.slice V17 (combR gs ts xs ys tt dx dy).1.length c17) := (hb25.cell (p := ⟨bF15, 0, none⟩) (by go_simp)).trans (by go_simp)
  clear yb8_0_31 lb8_31 yb7_0_31 lb7_31 yb6_0_31 lb6_31 yb5_1_31 yb5_0_31 lb5_31 yb4_0_31 lb4_31 yb3_1_31 yb3_0_31 lb3_31 yb2_0_31 lb2_31 yb1_0_31 lb1_31 yb0_1_31 yb0_0_31 lb0_31 kc24 kc22_31 kc20_31 krV15_31 kc13_31 kc12_31 kc11_31 krV4_31 kw_31 s32
  clear hb25
  repeat (first | ((with_reducible refine wpD_p (fun K hK => ?_)); go_simp; refine hK _ ?_; clear hK K) | ((with_reducible refine wpD_q (fun K hK => ?_)); go_simp; (first | refine hK _ ?_ | (go_bits; refine hK _ ?_) | (go_bits; go_simp; refine hK _ ?_)); clear hK K))
  with_reducible refine wpD_nil ?_
  go_wp2_with fail
  have sB0H := Lib.hid lb0_32
  have sB1H := Lib.hid lb1_32
  have sB2H := Lib.hid lb2_32
  have sB3H := Lib.hid lb3_32
  have sB4H := Lib.hid lb4_32
  have sB5H := Lib.hid lb5_32
  have sB6H := Lib.hid lb6_32
  have sB7H := Lib.hid lb7_32
  have sB8H := Lib.hid lb8_32
  have MG11 := Lib.hid (((o11H.out.mk_).lo_ (lo' := (w10.heap.size)) om_).below kc11_32 (Nat.le_refl _))
  have MT11 := Lib.hid (((p11H.out.mkTiles htsH.out).lo_ (lo' := (w10.heap.size)) om_).below kc11_32 (Nat.le_refl _))
  have MA12 := Lib.hid (((o12H.out.mk_).lo_ (lo' := (w11.heap.size + 1)) om_).below kc12_32 (Nat.le_refl _))
  have MA13 := Lib.hid (((o13H.out.mk_).lo_ (lo' := (w12.heap.size + 1)) om_).below kc13_32 (Nat.le_refl _))
  have OG17a := Lib.hid (ownsRow_base (base' := (w17u.heap.size)) (ownsRow_below vV17_0H.out krV15_32) om_)
  refine (markTileSet_any _ _ n _ m _ 1 (w10.heap.size) w11.heap.size _ (MkRow.below MG11.out bk_ om_) (MkTiles.below MT11.out bk_ om_) om_ om_ (by omega)).mono ?_
  rintro e w26 ⟨r26, rfl, hr261, hr262, hm26⟩
  clear MT11 MG11
  have s33 : w25.heap.size ≤ w26.heap.size := by have := hm26.size; (try simp at this); omega
  have s33H := Lib.hid s33
  have kw_33 : Below w.heap.size w w26 := Below.trans bk_ (hm26.below.mono om_)
  have krV4_33 : Below w10.heap.size w10 w26 := Below.trans bk_ (hm26.below.mono om_)
  have lb0_33 : w.heap.size < w26.heap.size := Nat.lt_of_lt_of_le (by go_simp) hm26.size
  have yb0_0_33 : w26.cell? ⟨w.heap.size, 0, none⟩ = some (.slice G n cg) := (hm26.below.cell (p := ⟨w.heap.size, 0, none⟩) om_).trans (by go_simp)
  have yb0_1_33 : w26.cell? ⟨w.heap.size, 1, none⟩ = some (.slice T m ct) := (hm26.below.cell (p := ⟨w.heap.size, 1, none⟩) om_).trans (by go_simp)
  have lb1_33 : w.heap.size + 1 < w26.heap.size := Nat.lt_of_lt_of_le (by go_simp) hm26.size
  have yb1_0_33 : w26.cell? ⟨w.heap.size + 1, 0, none⟩ = some (.slice A q ca) := (hm26.below.cell (p := ⟨w.heap.size + 1, 0, none⟩) om_).trans (by go_simp)
  have lb2_33 : w.heap.size + 2 < w26.heap.size := Nat.lt_of_lt_of_le (by go_simp) hm26.size
  have yb2_0_33 : w26.cell? ⟨w.heap.size + 2, 0, none⟩ = some (.slice C nb cb) := (hm26.below.cell (p := ⟨w.heap.size + 2, 0, none⟩) om_).trans (by go_simp)
  have lb3_33 : w.heap.size + 3 < w26.heap.size := Nat.lt_of_lt_of_le (by go_simp) hm26.size
  have yb3_0_33 : w26.cell? ⟨w.heap.size + 3, 0, none⟩ = some (.int .i64 dx) := (hm26.below.cell (p := ⟨w.heap.size + 3, 0, none⟩) om_).trans (by go_simp)
  have yb3_1_33 : w26.cell? ⟨w.heap.size + 3, 1, none⟩ = some (.int .i64 dy) := (hm26.below.cell (p := ⟨w.heap.size + 3, 1, none⟩) om_).trans (by go_simp)
  have lb4_33 : bF4 < w26.heap.size := Nat.lt_of_lt_of_le (by go_simp) hm26.size
  have yb4_0_33 : w26.cell? ⟨bF4, 0, none⟩ = some (.slice V9 (combR gs ts xs ys tt dx dy).1.length c9) := (hm26.below.cell (p := ⟨bF4, 0, none⟩) om_).trans (by go_simp)
  have lb5_33 : w11.heap.size < w26.heap.size := Nat.lt_of_lt_of_le (by go_simp) hm26.size
  have yb5_0_33 : w26.cell? ⟨w11.heap.size, 0, none⟩ = some (.slice G11 n n) := (World.cell?_of_block (a := ⟨w11.heap.size, 0, none⟩) (hm26.keep (w11.heap.size) om_ (by go_simp))).trans (by go_simp)
  have yb5_1_33 : w26.cell? ⟨w11.heap.size, 1, none⟩ = some (.slice T11 m m) := (World.cell?_of_block (a := ⟨w11.heap.size, 1, none⟩) (hm26.keep (w11.heap.size) om_ (by go_simp))).trans (by go_simp)
  have lb6_33 : w12.heap.size < w26.heap.size := Nat.lt_of_lt_of_le (by go_simp) hm26.size
  have yb6_0_33 : w26.cell? ⟨w12.heap.size, 0, none⟩ = some (.slice A12 q q) := (World.cell?_of_block (a := ⟨w12.heap.size, 0, none⟩) (hm26.keep (w12.heap.size) om_ (by go_simp))).trans (by go_simp)
  have lb7_33 : w13.heap.size < w26.heap.size := Nat.lt_of_lt_of_le (by go_simp) hm26.size
  have yb7_0_33 : w26.cell? ⟨w13.heap.size, 0, none⟩ = some (.slice A13 nb nb) := (World.cell?_of_block (a := ⟨w13.heap.size, 0, none⟩) (hm26.keep (w13.heap.size) om_ (by go_simp))).trans (by go_simp)
  have lb8_33 : bF15 < w26.heap.size := Nat.lt_of_lt_of_le (by go_simp) hm26.size
  have yb8_0_33 : w26.cell? ⟨bF15, 0, none⟩ = some (.slice V17 (combR gs ts xs ys tt dx dy).1.length c17) := (World.cell?_of_block (a := ⟨bF15, 0, none⟩) (Mk.either (k := bF15) hm26 om_ (by go_simp))).trans (by go_simp)
  have MA12_33 := Lib.hid (MkRow.mk (MkRow.below (MA12.out) bk_ om_) hm26 om_ om_)
  have MA13_33 := Lib.hid (MkRow.mk (MkRow.below (MA13.out) bk_ om_) hm26 om_ om_)
  have OG17a_33 := Lib.hid (ownsRow_mk (ownsRow_below OG17a.out bk_) hm26 om_)
  clear OG17a MA13 MA12 yb8_0_32 lb8_32 yb7_0_32 lb7_32 yb6_0_32 lb6_32 yb5_1_32 yb5_0_32 lb5_32 yb4_0_32 lb4_32 yb3_1_32 yb3_0_32 lb3_32 yb2_0_32 lb2_32 yb1_0_32 lb1_32 yb0_1_32 yb0_0_32 lb0_32 kc24_32 kc22_32 kc20_32 krV15_32 kc13_32 kc12_32 kc11_32 krV4_32 kw_32 s33
  clear hm26
  go_wp2_with fail
  refine (markAssembly_any2 _ q _ r26 (w11.heap.size + 1) w12.heap.size _ (MkRow.below MA12_33.out bk_ om_) om_ om_ (by omega)).mono ?_
  rintro e w27 ⟨r27, rfl, hr271, hr272, hm27⟩
  clear MA12_33
  have s34 : w26.heap.size ≤ w27.heap.size := by have := hm27.size; (try simp at this); omega
  have s34H := Lib.hid s34
  have kw_34 : Below w.heap.size w w27 := Below.trans bk_ (hm27.below.mono om_)
  have krV4_34 : Below w10.heap.size w10 w27 := Below.trans bk_ (hm27.below.mono om_)
  have lb0_34 : w.heap.size < w27.heap.size := Nat.lt_of_lt_of_le (by go_simp) hm27.size
  have yb0_0_34 : w27.cell? ⟨w.heap.size, 0, none⟩ = some (.slice G n cg) := (hm27.below.cell (p := ⟨w.heap.size, 0, none⟩) om_).trans (by go_simp)
  have yb0_1_34 : w27.cell? ⟨w.heap.size, 1, none⟩ = some (.slice T m ct) := (hm27.below.cell (p := ⟨w.heap.size, 1, none⟩) om_).trans (by go_simp)
  have lb1_34 : w.heap.size + 1 < w27.heap.size := Nat.lt_of_lt_of_le (by go_simp) hm27.size
  have yb1_0_34 : w27.cell? ⟨w.heap.size + 1, 0, none⟩ = some (.slice A q ca) := (hm27.below.cell (p := ⟨w.heap.size + 1, 0, none⟩) om_).trans (by go_simp)
  have lb2_34 : w.heap.size + 2 < w27.heap.size := Nat.lt_of_lt_of_le (by go_simp) hm27.size
  have yb2_0_34 : w27.cell? ⟨w.heap.size + 2, 0, none⟩ = some (.slice C nb cb) := (hm27.below.cell (p := ⟨w.heap.size + 2, 0, none⟩) om_).trans (by go_simp)
  have lb3_34 : w.heap.size + 3 < w27.heap.size := Nat.lt_of_lt_of_le (by go_simp) hm27.size
  have yb3_0_34 : w27.cell? ⟨w.heap.size + 3, 0, none⟩ = some (.int .i64 dx) := (hm27.below.cell (p := ⟨w.heap.size + 3, 0, none⟩) om_).trans (by go_simp)
  have yb3_1_34 : w27.cell? ⟨w.heap.size + 3, 1, none⟩ = some (.int .i64 dy) := (hm27.below.cell (p := ⟨w.heap.size + 3, 1, none⟩) om_).trans (by go_simp)
  have lb4_34 : bF4 < w27.heap.size := Nat.lt_of_lt_of_le (by go_simp) hm27.size
  have yb4_0_34 : w27.cell? ⟨bF4, 0, none⟩ = some (.slice V9 (combR gs ts xs ys tt dx dy).1.length c9) := (hm27.below.cell (p := ⟨bF4, 0, none⟩) om_).trans (by go_simp)
  have lb5_34 : w11.heap.size < w27.heap.size := Nat.lt_of_lt_of_le (by go_simp) hm27.size
  have yb5_0_34 : w27.cell? ⟨w11.heap.size, 0, none⟩ = some (.slice G11 n n) := (hm27.below.cell (p := ⟨w11.heap.size, 0, none⟩) om_).trans (by go_simp)
  have yb5_1_34 : w27.cell? ⟨w11.heap.size, 1, none⟩ = some (.slice T11 m m) := (hm27.below.cell (p := ⟨w11.heap.size, 1, none⟩) om_).trans (by go_simp)
  have lb6_34 : w12.heap.size < w27.heap.size := Nat.lt_of_lt_of_le (by go_simp) hm27.size
  have yb6_0_34 : w27.cell? ⟨w12.heap.size, 0, none⟩ = some (.slice A12 q q) := (World.cell?_of_block (a := ⟨w12.heap.size, 0, none⟩) (hm27.keep (w12.heap.size) om_ (by go_simp))).trans (by go_simp)
  have lb7_34 : w13.heap.size < w27.heap.size := Nat.lt_of_lt_of_le (by go_simp) hm27.size
  have yb7_0_34 : w27.cell? ⟨w13.heap.size, 0, none⟩ = some (.slice A13 nb nb) := (World.cell?_of_block (a := ⟨w13.heap.size, 0, none⟩) (hm27.keep (w13.heap.size) om_ (by go_simp))).trans (by go_simp)
  have lb8_34 : bF15 < w27.heap.size := Nat.lt_of_lt_of_le (by go_simp) hm27.size
  have yb8_0_34 : w27.cell? ⟨bF15, 0, none⟩ = some (.slice V17 (combR gs ts xs ys tt dx dy).1.length c17) := (World.cell?_of_block (a := ⟨bF15, 0, none⟩) (Mk.either (k := bF15) hm27 om_ (by go_simp))).trans (by go_simp)
  have MA13_34 := Lib.hid (MkRow.mk (MkRow.below (MA13_33.out) bk_ om_) hm27 om_ om_)
  have OG17a_34 := Lib.hid (ownsRow_mk (ownsRow_below OG17a_33.out bk_) hm27 om_)
  clear OG17a_33 MA13_33 yb8_0_33 lb8_33 yb7_0_33 lb7_33 yb6_0_33 lb6_33 yb5_1_33 yb5_0_33 lb5_33 yb4_0_33 lb4_33 yb3_1_33 yb3_0_33 lb3_33 yb2_0_33 lb2_33 yb1_0_33 lb1_33 yb0_1_33 yb0_0_33 lb0_33 krV4_33 kw_33 s34
  clear hm27
  go_wp2_with fail
  refine (markAssembly_any2 _ nb _ r27 (w12.heap.size + 1) w13.heap.size _ (MkRow.below MA13_34.out bk_ om_) om_ om_ (by omega)).mono ?_
  rintro e w28 ⟨r28, rfl, hr281, hr282, hm28⟩
  clear MA13_34
  have s35 : w27.heap.size ≤ w28.heap.size := by have := hm28.size; (try simp at this); omega
  have s35H := Lib.hid s35
  have kw_35 : Below w.heap.size w w28 := Below.trans bk_ (hm28.below.mono om_)
  have krV4_35 : Below w10.heap.size w10 w28 := Below.trans bk_ (hm28.below.mono om_)
  have lb0_35 : w.heap.size < w28.heap.size := Nat.lt_of_lt_of_le (by go_simp) hm28.size
  have yb0_0_35 : w28.cell? ⟨w.heap.size, 0, none⟩ = some (.slice G n cg) := (hm28.below.cell (p := ⟨w.heap.size, 0, none⟩) om_).trans (by go_simp)
  have yb0_1_35 : w28.cell? ⟨w.heap.size, 1, none⟩ = some (.slice T m ct) := (hm28.below.cell (p := ⟨w.heap.size, 1, none⟩) om_).trans (by go_simp)
  have lb1_35 : w.heap.size + 1 < w28.heap.size := Nat.lt_of_lt_of_le (by go_simp) hm28.size
  have yb1_0_35 : w28.cell? ⟨w.heap.size + 1, 0, none⟩ = some (.slice A q ca) := (hm28.below.cell (p := ⟨w.heap.size + 1, 0, none⟩) om_).trans (by go_simp)
  have lb2_35 : w.heap.size + 2 < w28.heap.size := Nat.lt_of_lt_of_le (by go_simp) hm28.size
  have yb2_0_35 : w28.cell? ⟨w.heap.size + 2, 0, none⟩ = some (.slice C nb cb) := (hm28.below.cell (p := ⟨w.heap.size + 2, 0, none⟩) om_).trans (by go_simp)
  have lb3_35 : w.heap.size + 3 < w28.heap.size := Nat.lt_of_lt_of_le (by go_simp) hm28.size
  have yb3_0_35 : w28.cell? ⟨w.heap.size + 3, 0, none⟩ = some (.int .i64 dx) := (hm28.below.cell (p := ⟨w.heap.size + 3, 0, none⟩) om_).trans (by go_simp)
  have yb3_1_35 : w28.cell? ⟨w.heap.size + 3, 1, none⟩ = some (.int .i64 dy) := (hm28.below.cell (p := ⟨w.heap.size + 3, 1, none⟩) om_).trans (by go_simp)
  have lb4_35 : bF4 < w28.heap.size := Nat.lt_of_lt_of_le (by go_simp) hm28.size
  have yb4_0_35 : w28.cell? ⟨bF4, 0, none⟩ = some (.slice V9 (combR gs ts xs ys tt dx dy).1.length c9) := (hm28.below.cell (p := ⟨bF4, 0, none⟩) om_).trans (by go_simp)
  have lb5_35 : w11.heap.size < w28.heap.size := Nat.lt_of_lt_of_le (by go_simp) hm28.size
  have yb5_0_35 : w28.cell? ⟨w11.heap.size, 0, none⟩ = some (.slice G11 n n) := (hm28.below.cell (p := ⟨w11.heap.size, 0, none⟩) om_).trans (by go_simp)
  have yb5_1_35 : w28.cell? ⟨w11.heap.size, 1, none⟩ = some (.slice T11 m m) := (hm28.below.cell (p := ⟨w11.heap.size, 1, none⟩) om_).trans (by go_simp)
  have lb6_35 : w12.heap.size < w28.heap.size := Nat.lt_of_lt_of_le (by go_simp) hm28.size
  have yb6_0_35 : w28.cell? ⟨w12.heap.size, 0, none⟩ = some (.slice A12 q q) := (hm28.below.cell (p := ⟨w12.heap.size, 0, none⟩) om_).trans (by go_simp)
  have lb7_35 : w13.heap.size < w28.heap.size := Nat.lt_of_lt_of_le (by go_simp) hm28.size
  have yb7_0_35 : w28.cell? ⟨w13.heap.size, 0, none⟩ = some (.slice A13 nb nb) := (World.cell?_of_block (a := ⟨w13.heap.size, 0, none⟩) (hm28.keep (w13.heap.size) om_ (by go_simp))).trans (by go_simp)
  have lb8_35 : bF15 < w28.heap.size := Nat.lt_of_lt_of_le (by go_simp) hm28.size
  have yb8_0_35 : w28.cell? ⟨bF15, 0, none⟩ = some (.slice V17 (combR gs ts xs ys tt dx dy).1.length c17) := (World.cell?_of_block (a := ⟨bF15, 0, none⟩) (Mk.either (k := bF15) hm28 om_ (by go_simp))).trans (by go_simp)
  have OG17a_35 := Lib.hid (ownsRow_mk (ownsRow_below OG17a_34.out bk_) hm28 om_)
  clear OG17a_34 yb8_0_34 lb8_34 yb7_0_34 lb7_34 yb6_0_34 lb6_34 yb5_1_34 yb5_0_34 lb5_34 yb4_0_34 lb4_34 yb3_1_34 yb3_0_34 lb3_34 yb2_0_34 lb2_34 yb1_0_34 lb1_34 yb0_1_34 yb0_0_34 lb0_34 krV4_34 kw_34 s35
  clear hm28
  go_wp2_with fail
  refine (eqAssembly_same _ _ _ _ _ (combR gs ts xs ys tt dx dy).1 _ ((rdPl OG17a_35.out).below RPl.stable bk_) ((rdPl vV9_0H.out).below RPl.stable bk_) hRl.out).mono ?_
  rintro e w29 ⟨rfl, hb29⟩
  have s36 : w28.heap.size ≤ w29.heap.size := by have := hb29.size; (try simp at this); omega
  have s36H := Lib.hid s36
  have kw_36 : Below w.heap.size w w29 := bl_tr bk_ hb29
  have krV4_36 : Below w10.heap.size w10 w29 := bl_tr bk_ hb29
  have lb0_36 : w.heap.size < w29.heap.size := Nat.lt_of_lt_of_le (by go_simp) hb29.size
  have yb0_0_36 : w29.cell? ⟨w.heap.size, 0, none⟩ = some (.slice G n cg) := (hb29.cell (p := ⟨w.heap.size, 0, none⟩) (by go_simp)).trans (by go_simp)
  have yb0_1_36 : w29.cell? ⟨w.heap.size, 1, none⟩ = some (.slice T m ct) := (hb29.cell (p := ⟨w.heap.size, 1, none⟩) (by go_simp)).trans (by go_simp)
  have lb1_36 : w.heap.size + 1 < w29.heap.size := Nat.lt_of_lt_of_le (by go_simp) hb29.size
  have yb1_0_36 : w29.cell? ⟨w.heap.size + 1, 0, none⟩ = some (.slice A q ca) := (hb29.cell (p := ⟨w.heap.size + 1, 0, none⟩) (by go_simp)).trans (by go_simp)
  have lb2_36 : w.heap.size + 2 < w29.heap.size := Nat.lt_of_lt_of_le (by go_simp) hb29.size
  have yb2_0_36 : w29.cell? ⟨w.heap.size + 2, 0, none⟩ = some (.slice C nb cb) := (hb29.cell (p := ⟨w.heap.size + 2, 0, none⟩) (by go_simp)).trans (by go_simp)
  have lb3_36 : w.heap.size + 3 < w29.heap.size := Nat.lt_of_lt_of_le (by go_simp) hb29.size
  have yb3_0_36 : w29.cell? ⟨w.heap.size + 3, 0, none⟩ = some (.int .i64 dx) := (hb29.cell (p := ⟨w.heap.size + 3, 0, none⟩) (by go_simp)).trans (by go_simp)
  have yb3_1_36 : w29.cell? ⟨w.heap.size + 3, 1, none⟩ = some (.int .i64 dy) := (hb29.cell (p := ⟨w.heap.size + 3, 1, none⟩) (by go_simp)).trans (by go_simp)
  have lb4_36 : bF4 < w29.heap.size := Nat.lt_of_lt_of_le (by go_simp) hb29.size
  have yb4_0_36 : w29.cell? ⟨bF4, 0, none⟩ = some (.slice V9 (combR gs ts xs ys tt dx dy).1.length c9) := (hb29.cell (p := ⟨bF4, 0, none⟩) (by go_simp)).trans (by go_simp)
  have lb5_36 : w11.heap.size < w29.heap.size := Nat.lt_of_lt_of_le (by go_simp) hb29.size
  have yb5_0_36 : w29.cell? ⟨w11.heap.size, 0, none⟩ = some (.slice G11 n n) := (hb29.cell (p := ⟨w11.heap.size, 0, none⟩) (by go_simp)).trans (by go_simp)
  have yb5_1_36 : w29.cell? ⟨w11.heap.size, 1, none⟩ = some (.slice T11 m m) := (hb29.cell (p := ⟨w11.heap.size, 1, none⟩) (by go_simp)).trans (by go_simp)
  have lb6_36 : w12.heap.size < w29.heap.size := Nat.lt_of_lt_of_le (by go_simp) hb29.size
  have yb6_0_36 : w29.cell? ⟨w12.heap.size, 0, none⟩ = some (.slice A12 q q) := (hb29.cell (p := ⟨w12.heap.size, 0, none⟩) (by go_simp)).trans (by go_simp)
  have lb7_36 : w13.heap.size < w29.heap.size := Nat.lt_of_lt_of_le (by go_simp) hb29.size
  have yb7_0_36 : w29.cell? ⟨w13.heap.size, 0, none⟩ = some (.slice A13 nb nb) := (hb29.cell (p := ⟨w13.heap.size, 0, none⟩) (by go_simp)).trans (by go_simp)
  have lb8_36 : bF15 < w29.heap.size := Nat.lt_of_lt_of_le (by go_simp) hb29.size
  have yb8_0_36 : w29.cell? ⟨bF15, 0, none⟩ = some (.slice V17 (combR gs ts xs ys tt dx dy).1.length c17) := (hb29.cell (p := ⟨bF15, 0, none⟩) (by go_simp)).trans (by go_simp)
  have OG17a_36 := Lib.hid (ownsRow_below (ownsRow_below OG17a_35.out bk_) hb29)
  clear OG17a_35 yb8_0_35 lb8_35 yb7_0_35 lb7_35 yb6_0_35 lb6_35 yb5_1_35 yb5_0_35 lb5_35 yb4_0_35 lb4_35 yb3_1_35 yb3_0_35 lb3_35 yb2_0_35 lb2_35 yb1_0_35 lb1_35 yb0_1_35 yb0_0_35 lb0_35 krV4_35 kw_35 s36
  clear hb29
  go_wp2_with fail
  refine (markAssembly_c _ _ _ 1 (w17u.heap.size) _ _ (mkRow_hi (ownsRow_below OG17a_36.out bk_) hv17H.out) om_ om_ (by have := hRl.out; omega)).mono ?_
  rintro e w30 ⟨rfl, hm30, mc30⟩
  clear OG17a_36
  have s37 : w29.heap.size ≤ w30.heap.size := by have := hm30.size; (try simp at this); omega
  have s37H := Lib.hid s37
  have kw_37 : Below w.heap.size w w30 := Below.trans bk_ (hm30.below.mono om_)
  have krV4_37 : Below w10.heap.size w10 w30 := Below.trans bk_ (hm30.below.mono om_)
  have lb0_37 : w.heap.size < w30.heap.size := Nat.lt_of_lt_of_le (by go_simp) hm30.size
  have yb0_0_37 : w30.cell? ⟨w.heap.size, 0, none⟩ = some (.slice G n cg) := (hm30.below.cell (p := ⟨w.heap.size, 0, none⟩) om_).trans (by go_simp)
  have yb0_1_37 : w30.cell? ⟨w.heap.size, 1, none⟩ = some (.slice T m ct) := (hm30.below.cell (p := ⟨w.heap.size, 1, none⟩) om_).trans (by go_simp)
  have lb1_37 : w.heap.size + 1 < w30.heap.size := Nat.lt_of_lt_of_le (by go_simp) hm30.size
  have yb1_0_37 : w30.cell? ⟨w.heap.size + 1, 0, none⟩ = some (.slice A q ca) := (hm30.below.cell (p := ⟨w.heap.size + 1, 0, none⟩) om_).trans (by go_simp)
  have lb2_37 : w.heap.size + 2 < w30.heap.size := Nat.lt_of_lt_of_le (by go_simp) hm30.size
  have yb2_0_37 : w30.cell? ⟨w.heap.size + 2, 0, none⟩ = some (.slice C nb cb) := (hm30.below.cell (p := ⟨w.heap.size + 2, 0, none⟩) om_).trans (by go_simp)
  have lb3_37 : w.heap.size + 3 < w30.heap.size := Nat.lt_of_lt_of_le (by go_simp) hm30.size
  have yb3_0_37 : w30.cell? ⟨w.heap.size + 3, 0, none⟩ = some (.int .i64 dx) := (hm30.below.cell (p := ⟨w.heap.size + 3, 0, none⟩) om_).trans (by go_simp)
  have yb3_1_37 : w30.cell? ⟨w.heap.size + 3, 1, none⟩ = some (.int .i64 dy) := (hm30.below.cell (p := ⟨w.heap.size + 3, 1, none⟩) om_).trans (by go_simp)
  have lb4_37 : bF4 < w30.heap.size := Nat.lt_of_lt_of_le (by go_simp) hm30.size
  have yb4_0_37 : w30.cell? ⟨bF4, 0, none⟩ = some (.slice V9 (combR gs ts xs ys tt dx dy).1.length c9) := (hm30.below.cell (p := ⟨bF4, 0, none⟩) om_).trans (by go_simp)
  have lb5_37 : w11.heap.size < w30.heap.size := Nat.lt_of_lt_of_le (by go_simp) hm30.size
  have yb5_0_37 : w30.cell? ⟨w11.heap.size, 0, none⟩ = some (.slice G11 n n) := (hm30.below.cell (p := ⟨w11.heap.size, 0, none⟩) om_).trans (by go_simp)
  have yb5_1_37 : w30.cell? ⟨w11.heap.size, 1, none⟩ = some (.slice T11 m m) := (hm30.below.cell (p := ⟨w11.heap.size, 1, none⟩) om_).trans (by go_simp)
  have lb6_37 : w12.heap.size < w30.heap.size := Nat.lt_of_lt_of_le (by go_simp) hm30.size
  have yb6_0_37 : w30.cell? ⟨w12.heap.size, 0, none⟩ = some (.slice A12 q q) := (hm30.below.cell (p := ⟨w12.heap.size, 0, none⟩) om_).trans (by go_simp)
  have lb7_37 : w13.heap.size < w30.heap.size := Nat.lt_of_lt_of_le (by go_simp) hm30.size
  have yb7_0_37 : w30.cell? ⟨w13.heap.size, 0, none⟩ = some (.slice A13 nb nb) := (hm30.below.cell (p := ⟨w13.heap.size, 0, none⟩) om_).trans (by go_simp)
  have lb8_37 : bF15 < w30.heap.size := Nat.lt_of_lt_of_le (by go_simp) hm30.size
  have yb8_0_37 : w30.cell? ⟨bF15, 0, none⟩ = some (.slice V17 (combR gs ts xs ys tt dx dy).1.length c17) := (World.cell?_of_block (a := ⟨bF15, 0, none⟩) (Mk.either (k := bF15) hm30 om_ (by go_simp))).trans (by go_simp)
  clear yb8_0_36 lb8_36 yb7_0_36 lb7_36 yb6_0_36 lb6_36 yb5_1_36 yb5_0_36 lb5_36 yb4_0_36 lb4_36 yb3_1_36 yb3_0_36 lb3_36 yb2_0_36 lb2_36 yb1_0_36 lb1_36 yb0_1_36 yb0_0_36 lb0_36 krV4_36 kw_36 s37
  have Mc30 := Lib.hid mc30
  clear mc30 hm30
  go_wp2_with fail
  refine (heldAssembly_any _ _ _ 1 _ _ _ (Marked.below Mc30.out bk_ om_) om_ (by have := hRl.out; omega)).mono ?_
  rintro e w31 ⟨rfl, hb31⟩
  have s38 : w30.heap.size ≤ w31.heap.size := by have := hb31.size; (try simp at this); omega
  have s38H := Lib.hid s38
  have kw_38 : Below w.heap.size w w31 := bl_tr bk_ hb31
  have krV4_38 : Below w10.heap.size w10 w31 := bl_tr bk_ hb31
  have lb0_38 : w.heap.size < w31.heap.size := Nat.lt_of_lt_of_le (by go_simp) hb31.size
  have yb0_0_38 : w31.cell? ⟨w.heap.size, 0, none⟩ = some (.slice G n cg) := (hb31.cell (p := ⟨w.heap.size, 0, none⟩) (by go_simp)).trans (by go_simp)
  have yb0_1_38 : w31.cell? ⟨w.heap.size, 1, none⟩ = some (.slice T m ct) := (hb31.cell (p := ⟨w.heap.size, 1, none⟩) (by go_simp)).trans (by go_simp)
  have lb1_38 : w.heap.size + 1 < w31.heap.size := Nat.lt_of_lt_of_le (by go_simp) hb31.size
  have yb1_0_38 : w31.cell? ⟨w.heap.size + 1, 0, none⟩ = some (.slice A q ca) := (hb31.cell (p := ⟨w.heap.size + 1, 0, none⟩) (by go_simp)).trans (by go_simp)
  have lb2_38 : w.heap.size + 2 < w31.heap.size := Nat.lt_of_lt_of_le (by go_simp) hb31.size
  have yb2_0_38 : w31.cell? ⟨w.heap.size + 2, 0, none⟩ = some (.slice C nb cb) := (hb31.cell (p := ⟨w.heap.size + 2, 0, none⟩) (by go_simp)).trans (by go_simp)
  have lb3_38 : w.heap.size + 3 < w31.heap.size := Nat.lt_of_lt_of_le (by go_simp) hb31.size
  have yb3_0_38 : w31.cell? ⟨w.heap.size + 3, 0, none⟩ = some (.int .i64 dx) := (hb31.cell (p := ⟨w.heap.size + 3, 0, none⟩) (by go_simp)).trans (by go_simp)
  have yb3_1_38 : w31.cell? ⟨w.heap.size + 3, 1, none⟩ = some (.int .i64 dy) := (hb31.cell (p := ⟨w.heap.size + 3, 1, none⟩) (by go_simp)).trans (by go_simp)
  have lb4_38 : bF4 < w31.heap.size := Nat.lt_of_lt_of_le (by go_simp) hb31.size
  have yb4_0_38 : w31.cell? ⟨bF4, 0, none⟩ = some (.slice V9 (combR gs ts xs ys tt dx dy).1.length c9) := (hb31.cell (p := ⟨bF4, 0, none⟩) (by go_simp)).trans (by go_simp)
  have lb5_38 : w11.heap.size < w31.heap.size := Nat.lt_of_lt_of_le (by go_simp) hb31.size
  have yb5_0_38 : w31.cell? ⟨w11.heap.size, 0, none⟩ = some (.slice G11 n n) := (hb31.cell (p := ⟨w11.heap.size, 0, none⟩) (by go_simp)).trans (by go_simp)
  have yb5_1_38 : w31.cell? ⟨w11.heap.size, 1, none⟩ = some (.slice T11 m m) := (hb31.cell (p := ⟨w11.heap.size, 1, none⟩) (by go_simp)).trans (by go_simp)
  have lb6_38 : w12.heap.size < w31.heap.size := Nat.lt_of_lt_of_le (by go_simp) hb31.size
  have yb6_0_38 : w31.cell? ⟨w12.heap.size, 0, none⟩ = some (.slice A12 q q) := (hb31.cell (p := ⟨w12.heap.size, 0, none⟩) (by go_simp)).trans (by go_simp)
  have lb7_38 : w13.heap.size < w31.heap.size := Nat.lt_of_lt_of_le (by go_simp) hb31.size
  have yb7_0_38 : w31.cell? ⟨w13.heap.size, 0, none⟩ = some (.slice A13 nb nb) := (hb31.cell (p := ⟨w13.heap.size, 0, none⟩) (by go_simp)).trans (by go_simp)
  have lb8_38 : bF15 < w31.heap.size := Nat.lt_of_lt_of_le (by go_simp) hb31.size
  have yb8_0_38 : w31.cell? ⟨bF15, 0, none⟩ = some (.slice V17 (combR gs ts xs ys tt dx dy).1.length c17) := (hb31.cell (p := ⟨bF15, 0, none⟩) (by go_simp)).trans (by go_simp)
  have Mc30_38 := Lib.hid (Marked.below (Marked.below Mc30.out bk_ om_) hb31 om_)
  clear Mc30 yb8_0_37 lb8_37 yb7_0_37 lb7_37 yb6_0_37 lb6_37 yb5_1_37 yb5_0_37 lb5_37 yb4_0_37 lb4_37 yb3_1_37 yb3_0_37 lb3_37 yb2_0_37 lb2_37 yb1_0_37 lb1_37 yb0_1_37 yb0_0_37 lb0_37 krV4_37 kw_37 s38
  clear hb31
  have kR32 : Below w31.heap.size w31 w31 := bl_refl _
  go_wp2_with fail
  refine wp_region_fl 13 [(0, .q), (2, .q), (3, .q), (5, .q), (7, .q), (1, .g), (4, .g), (6, .g), (8, .g), (9, .g), (10, .q), (11, .q), (12, .p)] [(14, .b), (15, .q)] _ (Obj.cells #[.slice none 0 0] 35) (by kernel_rfl) (by kernel_rfl) (by kernel_rfl) (by kernel_rfl) rfl (fun a w => ⟨rfl, by unfold flPtr; go_simp⟩) ?_
  simp only [pick, List.filterMap_cons, List.filterMap_nil, List.getElem?_toArray, List.getElem?_cons_zero, List.getElem?_cons_succ, Option.map_some]
  repeat (first | ((with_reducible refine wpL_p (fun K hK => ?_)); go_simp; refine hK _ ?_; clear hK K) | ((with_reducible refine wpL_q (fun K hK => ?_)); go_simp; (first | refine hK _ ?_ | (go_bits; refine hK _ ?_) | (go_bits; go_simp; refine hK _ ?_)); clear hK K))
  with_reducible refine wpL_g rfl (fun K hK st33 w33u mv33 => ?_)
  have hu33 := mv33.below
  have fu33 := (FlAt.none (Obj.cells #[.slice none 0 0] 35) (World.drew _)).mv mv33
  have Hmv33 := Lib.hid mv33
  clear mv33
  have s39 : w31.heap.size ≤ w33u.heap.size := by have := hu33.size; (try simp at this); omega
  have s39H := Lib.hid s39
  have kw_39 : Below w.heap.size w w33u := bl_tr bk_ hu33
  have krV4_39 : Below w10.heap.size w10 w33u := bl_tr bk_ hu33
  have kR32_39 : Below w31.heap.size w31 w33u := bl_tr bk_ hu33
  have lb0_39 : w.heap.size < w33u.heap.size := Nat.lt_of_lt_of_le (by go_simp) hu33.size
  have yb0_0_39 : w33u.cell? ⟨w.heap.size, 0, none⟩ = some (.slice G n cg) := (hu33.cell (p := ⟨w.heap.size, 0, none⟩) (by go_simp)).trans (by go_simp)
  have yb0_1_39 : w33u.cell? ⟨w.heap.size, 1, none⟩ = some (.slice T m ct) := (hu33.cell (p := ⟨w.heap.size, 1, none⟩) (by go_simp)).trans (by go_simp)
  have lb1_39 : w.heap.size + 1 < w33u.heap.size := Nat.lt_of_lt_of_le (by go_simp) hu33.size
  have yb1_0_39 : w33u.cell? ⟨w.heap.size + 1, 0, none⟩ = some (.slice A q ca) := (hu33.cell (p := ⟨w.heap.size + 1, 0, none⟩) (by go_simp)).trans (by go_simp)
  have lb2_39 : w.heap.size + 2 < w33u.heap.size := Nat.lt_of_lt_of_le (by go_simp) hu33.size
  have yb2_0_39 : w33u.cell? ⟨w.heap.size + 2, 0, none⟩ = some (.slice C nb cb) := (hu33.cell (p := ⟨w.heap.size + 2, 0, none⟩) (by go_simp)).trans (by go_simp)
  have lb3_39 : w.heap.size + 3 < w33u.heap.size := Nat.lt_of_lt_of_le (by go_simp) hu33.size
  have yb3_0_39 : w33u.cell? ⟨w.heap.size + 3, 0, none⟩ = some (.int .i64 dx) := (hu33.cell (p := ⟨w.heap.size + 3, 0, none⟩) (by go_simp)).trans (by go_simp)
  have yb3_1_39 : w33u.cell? ⟨w.heap.size + 3, 1, none⟩ = some (.int .i64 dy) := (hu33.cell (p := ⟨w.heap.size + 3, 1, none⟩) (by go_simp)).trans (by go_simp)
  have lb4_39 : bF4 < w33u.heap.size := Nat.lt_of_lt_of_le (by go_simp) hu33.size
  have yb4_0_39 : w33u.cell? ⟨bF4, 0, none⟩ = some (.slice V9 (combR gs ts xs ys tt dx dy).1.length c9) := (hu33.cell (p := ⟨bF4, 0, none⟩) (by go_simp)).trans (by go_simp)
  have lb5_39 : w11.heap.size < w33u.heap.size := Nat.lt_of_lt_of_le (by go_simp) hu33.size
  have yb5_0_39 : w33u.cell? ⟨w11.heap.size, 0, none⟩ = some (.slice G11 n n) := (hu33.cell (p := ⟨w11.heap.size, 0, none⟩) (by go_simp)).trans (by go_simp)
  have yb5_1_39 : w33u.cell? ⟨w11.heap.size, 1, none⟩ = some (.slice T11 m m) := (hu33.cell (p := ⟨w11.heap.size, 1, none⟩) (by go_simp)).trans (by go_simp)
  have lb6_39 : w12.heap.size < w33u.heap.size := Nat.lt_of_lt_of_le (by go_simp) hu33.size
  have yb6_0_39 : w33u.cell? ⟨w12.heap.size, 0, none⟩ = some (.slice A12 q q) := (hu33.cell (p := ⟨w12.heap.size, 0, none⟩) (by go_simp)).trans (by go_simp)
  have lb7_39 : w13.heap.size < w33u.heap.size := Nat.lt_of_lt_of_le (by go_simp) hu33.size
  have yb7_0_39 : w33u.cell? ⟨w13.heap.size, 0, none⟩ = some (.slice A13 nb nb) := (hu33.cell (p := ⟨w13.heap.size, 0, none⟩) (by go_simp)).trans (by go_simp)
  have lb8_39 : bF15 < w33u.heap.size := Nat.lt_of_lt_of_le (by go_simp) hu33.size
  have yb8_0_39 : w33u.cell? ⟨bF15, 0, none⟩ = some (.slice V17 (combR gs ts xs ys tt dx dy).1.length c17) := (hu33.cell (p := ⟨bF15, 0, none⟩) (by go_simp)).trans (by go_simp)
  have Mc30_39 := Lib.hid (Marked.below (Marked.below Mc30_38.out bk_ om_) hu33 om_)
  go_simp
  refine (toTileSet_any _ _ _ _ _ _ gs ts _ (hG.below RGl.stable bk_) (hT.below RTi.stable bk_) (by omega) (by omega) htsH.out).mono ?_
  rintro e w33 ⟨G33, T33, rfl, o33, p33, hb33⟩
  refine ⟨_, rfl, hb33, hK _ _ _ ?_⟩
  clear hK K
  have fd33 := fu33.below hb33
  have s40 : w33u.heap.size ≤ w33.heap.size := by have := hb33.size; (try simp at this); omega
  have s40H := Lib.hid s40
  have kw_40 : Below w.heap.size w w33 := bl_tr bk_ hb33
  have krV4_40 : Below w10.heap.size w10 w33 := bl_tr bk_ hb33
  have kR32_40 : Below w31.heap.size w31 w33 := bl_tr bk_ hb33
  have lb0_40 : w.heap.size < w33.heap.size := Nat.lt_of_lt_of_le (by go_simp) hb33.size
  have yb0_0_40 : w33.cell? ⟨w.heap.size, 0, none⟩ = some (.slice G n cg) := (hb33.cell (p := ⟨w.heap.size, 0, none⟩) (by go_simp)).trans (by go_simp)
  have yb0_1_40 : w33.cell? ⟨w.heap.size, 1, none⟩ = some (.slice T m ct) := (hb33.cell (p := ⟨w.heap.size, 1, none⟩) (by go_simp)).trans (by go_simp)
  have lb1_40 : w.heap.size + 1 < w33.heap.size := Nat.lt_of_lt_of_le (by go_simp) hb33.size
  have yb1_0_40 : w33.cell? ⟨w.heap.size + 1, 0, none⟩ = some (.slice A q ca) := (hb33.cell (p := ⟨w.heap.size + 1, 0, none⟩) (by go_simp)).trans (by go_simp)
  have lb2_40 : w.heap.size + 2 < w33.heap.size := Nat.lt_of_lt_of_le (by go_simp) hb33.size
  have yb2_0_40 : w33.cell? ⟨w.heap.size + 2, 0, none⟩ = some (.slice C nb cb) := (hb33.cell (p := ⟨w.heap.size + 2, 0, none⟩) (by go_simp)).trans (by go_simp)
  have lb3_40 : w.heap.size + 3 < w33.heap.size := Nat.lt_of_lt_of_le (by go_simp) hb33.size
  have yb3_0_40 : w33.cell? ⟨w.heap.size + 3, 0, none⟩ = some (.int .i64 dx) := (hb33.cell (p := ⟨w.heap.size + 3, 0, none⟩) (by go_simp)).trans (by go_simp)
  have yb3_1_40 : w33.cell? ⟨w.heap.size + 3, 1, none⟩ = some (.int .i64 dy) := (hb33.cell (p := ⟨w.heap.size + 3, 1, none⟩) (by go_simp)).trans (by go_simp)
  have lb4_40 : bF4 < w33.heap.size := Nat.lt_of_lt_of_le (by go_simp) hb33.size
  have yb4_0_40 : w33.cell? ⟨bF4, 0, none⟩ = some (.slice V9 (combR gs ts xs ys tt dx dy).1.length c9) := (hb33.cell (p := ⟨bF4, 0, none⟩) (by go_simp)).trans (by go_simp)
  have lb5_40 : w11.heap.size < w33.heap.size := Nat.lt_of_lt_of_le (by go_simp) hb33.size
  have yb5_0_40 : w33.cell? ⟨w11.heap.size, 0, none⟩ = some (.slice G11 n n) := (hb33.cell (p := ⟨w11.heap.size, 0, none⟩) (by go_simp)).trans (by go_simp)
  have yb5_1_40 : w33.cell? ⟨w11.heap.size, 1, none⟩ = some (.slice T11 m m) := (hb33.cell (p := ⟨w11.heap.size, 1, none⟩) (by go_simp)).trans (by go_simp)
  have lb6_40 : w12.heap.size < w33.heap.size := Nat.lt_of_lt_of_le (by go_simp) hb33.size
  have yb6_0_40 : w33.cell? ⟨w12.heap.size, 0, none⟩ = some (.slice A12 q q) := (hb33.cell (p := ⟨w12.heap.size, 0, none⟩) (by go_simp)).trans (by go_simp)
  have lb7_40 : w13.heap.size < w33.heap.size := Nat.lt_of_lt_of_le (by go_simp) hb33.size
  have yb7_0_40 : w33.cell? ⟨w13.heap.size, 0, none⟩ = some (.slice A13 nb nb) := (hb33.cell (p := ⟨w13.heap.size, 0, none⟩) (by go_simp)).trans (by go_simp)
  have lb8_40 : bF15 < w33.heap.size := Nat.lt_of_lt_of_le (by go_simp) hb33.size
  have yb8_0_40 : w33.cell? ⟨bF15, 0, none⟩ = some (.slice V17 (combR gs ts xs ys tt dx dy).1.length c17) := (hb33.cell (p := ⟨bF15, 0, none⟩) (by go_simp)).trans (by go_simp)
  have Mc30_40 := Lib.hid (Marked.below (Marked.below Mc30_39.out bk_ om_) hb33 om_)
  clear hb33
  have kc33 : Below w33.heap.size w33 w33 := bl_refl _
  have o33H := Lib.hid o33
  clear o33
  have p33H := Lib.hid p33
  clear p33
  with_reducible refine wpL_g rfl (fun K hK st34 w34u mv34 => ?_)
  have hu34 := mv34.below
  have fu34 := fd33.mv mv34
  have Hmv34 := Lib.hid mv34
  clear mv34
  have s41 : w33.heap.size ≤ w34u.heap.size := by have := hu34.size; (try simp at this); omega
  have s41H := Lib.hid s41
  have kw_41 : Below w.heap.size w w34u := bl_tr bk_ hu34
  have krV4_41 : Below w10.heap.size w10 w34u := bl_tr bk_ hu34
  have kR32_41 : Below w31.heap.size w31 w34u := bl_tr bk_ hu34
  have kc33_41 : Below w33.heap.size w33 w34u := bl_tr bk_ hu34
  have lb0_41 : w.heap.size < w34u.heap.size := Nat.lt_of_lt_of_le (by go_simp) hu34.size
  have yb0_0_41 : w34u.cell? ⟨w.heap.size, 0, none⟩ = some (.slice G n cg) := (hu34.cell (p := ⟨w.heap.size, 0, none⟩) (by go_simp)).trans (by go_simp)
  have yb0_1_41 : w34u.cell? ⟨w.heap.size, 1, none⟩ = some (.slice T m ct) := (hu34.cell (p := ⟨w.heap.size, 1, none⟩) (by go_simp)).trans (by go_simp)
  have lb1_41 : w.heap.size + 1 < w34u.heap.size := Nat.lt_of_lt_of_le (by go_simp) hu34.size
  have yb1_0_41 : w34u.cell? ⟨w.heap.size + 1, 0, none⟩ = some (.slice A q ca) := (hu34.cell (p := ⟨w.heap.size + 1, 0, none⟩) (by go_simp)).trans (by go_simp)
  have lb2_41 : w.heap.size + 2 < w34u.heap.size := Nat.lt_of_lt_of_le (by go_simp) hu34.size
  have yb2_0_41 : w34u.cell? ⟨w.heap.size + 2, 0, none⟩ = some (.slice C nb cb) := (hu34.cell (p := ⟨w.heap.size + 2, 0, none⟩) (by go_simp)).trans (by go_simp)
  have lb3_41 : w.heap.size + 3 < w34u.heap.size := Nat.lt_of_lt_of_le (by go_simp) hu34.size
  have yb3_0_41 : w34u.cell? ⟨w.heap.size + 3, 0, none⟩ = some (.int .i64 dx) := (hu34.cell (p := ⟨w.heap.size + 3, 0, none⟩) (by go_simp)).trans (by go_simp)
  have yb3_1_41 : w34u.cell? ⟨w.heap.size + 3, 1, none⟩ = some (.int .i64 dy) := (hu34.cell (p := ⟨w.heap.size + 3, 1, none⟩) (by go_simp)).trans (by go_simp)
  have lb4_41 : bF4 < w34u.heap.size := Nat.lt_of_lt_of_le (by go_simp) hu34.size
  have yb4_0_41 : w34u.cell? ⟨bF4, 0, none⟩ = some (.slice V9 (combR gs ts xs ys tt dx dy).1.length c9) := (hu34.cell (p := ⟨bF4, 0, none⟩) (by go_simp)).trans (by go_simp)
  have lb5_41 : w11.heap.size < w34u.heap.size := Nat.lt_of_lt_of_le (by go_simp) hu34.size
  have yb5_0_41 : w34u.cell? ⟨w11.heap.size, 0, none⟩ = some (.slice G11 n n) := (hu34.cell (p := ⟨w11.heap.size, 0, none⟩) (by go_simp)).trans (by go_simp)
  have yb5_1_41 : w34u.cell? ⟨w11.heap.size, 1, none⟩ = some (.slice T11 m m) := (hu34.cell (p := ⟨w11.heap.size, 1, none⟩) (by go_simp)).trans (by go_simp)
  have lb6_41 : w12.heap.size < w34u.heap.size := Nat.lt_of_lt_of_le (by go_simp) hu34.size
  have yb6_0_41 : w34u.cell? ⟨w12.heap.size, 0, none⟩ = some (.slice A12 q q) := (hu34.cell (p := ⟨w12.heap.size, 0, none⟩) (by go_simp)).trans (by go_simp)
  have lb7_41 : w13.heap.size < w34u.heap.size := Nat.lt_of_lt_of_le (by go_simp) hu34.size
  have yb7_0_41 : w34u.cell? ⟨w13.heap.size, 0, none⟩ = some (.slice A13 nb nb) := (hu34.cell (p := ⟨w13.heap.size, 0, none⟩) (by go_simp)).trans (by go_simp)
  have lb8_41 : bF15 < w34u.heap.size := Nat.lt_of_lt_of_le (by go_simp) hu34.size
  have yb8_0_41 : w34u.cell? ⟨bF15, 0, none⟩ = some (.slice V17 (combR gs ts xs ys tt dx dy).1.length c17) := (hu34.cell (p := ⟨bF15, 0, none⟩) (by go_simp)).trans (by go_simp)
  have Mc30_41 := Lib.hid (Marked.below (Marked.below Mc30_40.out bk_ om_) hu34 om_)
  go_simp
  refine (toAssembly_any _ _ _ xs _ (hA.below RPl.stable bk_) (by omega)).mono ?_
  rintro e w34 ⟨A34, rfl, o34, hb34⟩
  refine ⟨_, rfl, hb34, hK _ _ _ ?_⟩
  clear hK K
  have fd34 := fu34.below hb34
  have s42 : w34u.heap.size ≤ w34.heap.size := by have := hb34.size; (try simp at this); omega
  have s42H := Lib.hid s42
  have kw_42 : Below w.heap.size w w34 := bl_tr bk_ hb34
  have krV4_42 : Below w10.heap.size w10 w34 := bl_tr bk_ hb34
  have kR32_42 : Below w31.heap.size w31 w34 := bl_tr bk_ hb34
  have kc33_42 : Below w33.heap.size w33 w34 := bl_tr bk_ hb34
  have lb0_42 : w.heap.size < w34.heap.size := Nat.lt_of_lt_of_le (by go_simp) hb34.size
  have yb0_0_42 : w34.cell? ⟨w.heap.size, 0, none⟩ = some (.slice G n cg) := (hb34.cell (p := ⟨w.heap.size, 0, none⟩) (by go_simp)).trans (by go_simp)
  have yb0_1_42 : w34.cell? ⟨w.heap.size, 1, none⟩ = some (.slice T m ct) := (hb34.cell (p := ⟨w.heap.size, 1, none⟩) (by go_simp)).trans (by go_simp)
  have lb1_42 : w.heap.size + 1 < w34.heap.size := Nat.lt_of_lt_of_le (by go_simp) hb34.size
  have yb1_0_42 : w34.cell? ⟨w.heap.size + 1, 0, none⟩ = some (.slice A q ca) := (hb34.cell (p := ⟨w.heap.size + 1, 0, none⟩) (by go_simp)).trans (by go_simp)
  have lb2_42 : w.heap.size + 2 < w34.heap.size := Nat.lt_of_lt_of_le (by go_simp) hb34.size
  have yb2_0_42 : w34.cell? ⟨w.heap.size + 2, 0, none⟩ = some (.slice C nb cb) := (hb34.cell (p := ⟨w.heap.size + 2, 0, none⟩) (by go_simp)).trans (by go_simp)
  have lb3_42 : w.heap.size + 3 < w34.heap.size := Nat.lt_of_lt_of_le (by go_simp) hb34.size
  have yb3_0_42 : w34.cell? ⟨w.heap.size + 3, 0, none⟩ = some (.int .i64 dx) := (hb34.cell (p := ⟨w.heap.size + 3, 0, none⟩) (by go_simp)).trans (by go_simp)
  have yb3_1_42 : w34.cell? ⟨w.heap.size + 3, 1, none⟩ = some (.int .i64 dy) := (hb34.cell (p := ⟨w.heap.size + 3, 1, none⟩) (by go_simp)).trans (by go_simp)
  have lb4_42 : bF4 < w34.heap.size := Nat.lt_of_lt_of_le (by go_simp) hb34.size
  have yb4_0_42 : w34.cell? ⟨bF4, 0, none⟩ = some (.slice V9 (combR gs ts xs ys tt dx dy).1.length c9) := (hb34.cell (p := ⟨bF4, 0, none⟩) (by go_simp)).trans (by go_simp)
  have lb5_42 : w11.heap.size < w34.heap.size := Nat.lt_of_lt_of_le (by go_simp) hb34.size
  have yb5_0_42 : w34.cell? ⟨w11.heap.size, 0, none⟩ = some (.slice G11 n n) := (hb34.cell (p := ⟨w11.heap.size, 0, none⟩) (by go_simp)).trans (by go_simp)
  have yb5_1_42 : w34.cell? ⟨w11.heap.size, 1, none⟩ = some (.slice T11 m m) := (hb34.cell (p := ⟨w11.heap.size, 1, none⟩) (by go_simp)).trans (by go_simp)
  have lb6_42 : w12.heap.size < w34.heap.size := Nat.lt_of_lt_of_le (by go_simp) hb34.size
  have yb6_0_42 : w34.cell? ⟨w12.heap.size, 0, none⟩ = some (.slice A12 q q) := (hb34.cell (p := ⟨w12.heap.size, 0, none⟩) (by go_simp)).trans (by go_simp)
  have lb7_42 : w13.heap.size < w34.heap.size := Nat.lt_of_lt_of_le (by go_simp) hb34.size
  have yb7_0_42 : w34.cell? ⟨w13.heap.size, 0, none⟩ = some (.slice A13 nb nb) := (hb34.cell (p := ⟨w13.heap.size, 0, none⟩) (by go_simp)).trans (by go_simp)
  have lb8_42 : bF15 < w34.heap.size := Nat.lt_of_lt_of_le (by go_simp) hb34.size
  have yb8_0_42 : w34.cell? ⟨bF15, 0, none⟩ = some (.slice V17 (combR gs ts xs ys tt dx dy).1.length c17) := (hb34.cell (p := ⟨bF15, 0, none⟩) (by go_simp)).trans (by go_simp)
  have Mc30_42 := Lib.hid (Marked.below (Marked.below Mc30_41.out bk_ om_) hb34 om_)
  clear hb34
  have kc34 : Below w34.heap.size w34 w34 := bl_refl _
  have o34H := Lib.hid o34
  clear o34
  with_reducible refine wpL_g rfl (fun K hK st35 w35u mv35 => ?_)
  have hu35 := mv35.below
  have fu35 := fd34.mv mv35
  have Hmv35 := Lib.hid mv35
  clear mv35
  have s43 : w34.heap.size ≤ w35u.heap.size := by have := hu35.size; (try simp at this); omega
  have s43H := Lib.hid s43
  have kw_43 : Below w.heap.size w w35u := bl_tr bk_ hu35
  have krV4_43 : Below w10.heap.size w10 w35u := bl_tr bk_ hu35
  have kR32_43 : Below w31.heap.size w31 w35u := bl_tr bk_ hu35
  have kc33_43 : Below w33.heap.size w33 w35u := bl_tr bk_ hu35
  have kc34_43 : Below w34.heap.size w34 w35u := bl_tr bk_ hu35
  have lb0_43 : w.heap.size < w35u.heap.size := Nat.lt_of_lt_of_le (by go_simp) hu35.size
  have yb0_0_43 : w35u.cell? ⟨w.heap.size, 0, none⟩ = some (.slice G n cg) := (hu35.cell (p := ⟨w.heap.size, 0, none⟩) (by go_simp)).trans (by go_simp)
  have yb0_1_43 : w35u.cell? ⟨w.heap.size, 1, none⟩ = some (.slice T m ct) := (hu35.cell (p := ⟨w.heap.size, 1, none⟩) (by go_simp)).trans (by go_simp)
  have lb1_43 : w.heap.size + 1 < w35u.heap.size := Nat.lt_of_lt_of_le (by go_simp) hu35.size
  have yb1_0_43 : w35u.cell? ⟨w.heap.size + 1, 0, none⟩ = some (.slice A q ca) := (hu35.cell (p := ⟨w.heap.size + 1, 0, none⟩) (by go_simp)).trans (by go_simp)
  have lb2_43 : w.heap.size + 2 < w35u.heap.size := Nat.lt_of_lt_of_le (by go_simp) hu35.size
  have yb2_0_43 : w35u.cell? ⟨w.heap.size + 2, 0, none⟩ = some (.slice C nb cb) := (hu35.cell (p := ⟨w.heap.size + 2, 0, none⟩) (by go_simp)).trans (by go_simp)
  have lb3_43 : w.heap.size + 3 < w35u.heap.size := Nat.lt_of_lt_of_le (by go_simp) hu35.size
  have yb3_0_43 : w35u.cell? ⟨w.heap.size + 3, 0, none⟩ = some (.int .i64 dx) := (hu35.cell (p := ⟨w.heap.size + 3, 0, none⟩) (by go_simp)).trans (by go_simp)
  have yb3_1_43 : w35u.cell? ⟨w.heap.size + 3, 1, none⟩ = some (.int .i64 dy) := (hu35.cell (p := ⟨w.heap.size + 3, 1, none⟩) (by go_simp)).trans (by go_simp)
  have lb4_43 : bF4 < w35u.heap.size := Nat.lt_of_lt_of_le (by go_simp) hu35.size
  have yb4_0_43 : w35u.cell? ⟨bF4, 0, none⟩ = some (.slice V9 (combR gs ts xs ys tt dx dy).1.length c9) := (hu35.cell (p := ⟨bF4, 0, none⟩) (by go_simp)).trans (by go_simp)
  have lb5_43 : w11.heap.size < w35u.heap.size := Nat.lt_of_lt_of_le (by go_simp) hu35.size
  have yb5_0_43 : w35u.cell? ⟨w11.heap.size, 0, none⟩ = some (.slice G11 n n) := (hu35.cell (p := ⟨w11.heap.size, 0, none⟩) (by go_simp)).trans (by go_simp)
  have yb5_1_43 : w35u.cell? ⟨w11.heap.size, 1, none⟩ = some (.slice T11 m m) := (hu35.cell (p := ⟨w11.heap.size, 1, none⟩) (by go_simp)).trans (by go_simp)
  have lb6_43 : w12.heap.size < w35u.heap.size := Nat.lt_of_lt_of_le (by go_simp) hu35.size
  have yb6_0_43 : w35u.cell? ⟨w12.heap.size, 0, none⟩ = some (.slice A12 q q) := (hu35.cell (p := ⟨w12.heap.size, 0, none⟩) (by go_simp)).trans (by go_simp)
  have lb7_43 : w13.heap.size < w35u.heap.size := Nat.lt_of_lt_of_le (by go_simp) hu35.size
  have yb7_0_43 : w35u.cell? ⟨w13.heap.size, 0, none⟩ = some (.slice A13 nb nb) := (hu35.cell (p := ⟨w13.heap.size, 0, none⟩) (by go_simp)).trans (by go_simp)
  have lb8_43 : bF15 < w35u.heap.size := Nat.lt_of_lt_of_le (by go_simp) hu35.size
  have yb8_0_43 : w35u.cell? ⟨bF15, 0, none⟩ = some (.slice V17 (combR gs ts xs ys tt dx dy).1.length c17) := (hu35.cell (p := ⟨bF15, 0, none⟩) (by go_simp)).trans (by go_simp)
  have Mc30_43 := Lib.hid (Marked.below (Marked.below Mc30_42.out bk_ om_) hu35 om_)
  go_simp
  refine (toAssembly_any _ _ _ ys _ (hC.below RPl.stable bk_) (by omega)).mono ?_
  rintro e w35 ⟨A35, rfl, o35, hb35⟩
  refine ⟨_, rfl, hb35, hK _ _ _ ?_⟩
  clear hK K
  have fd35 := fu35.below hb35
  have s44 : w35u.heap.size ≤ w35.heap.size := by have := hb35.size; (try simp at this); omega
  have s44H := Lib.hid s44
  have kw_44 : Below w.heap.size w w35 := bl_tr bk_ hb35
  have krV4_44 : Below w10.heap.size w10 w35 := bl_tr bk_ hb35
  have kR32_44 : Below w31.heap.size w31 w35 := bl_tr bk_ hb35
  have kc33_44 : Below w33.heap.size w33 w35 := bl_tr bk_ hb35
  have kc34_44 : Below w34.heap.size w34 w35 := bl_tr bk_ hb35
  have lb0_44 : w.heap.size < w35.heap.size := Nat.lt_of_lt_of_le (by go_simp) hb35.size
  have yb0_0_44 : w35.cell? ⟨w.heap.size, 0, none⟩ = some (.slice G n cg) := (hb35.cell (p := ⟨w.heap.size, 0, none⟩) (by go_simp)).trans (by go_simp)
  have yb0_1_44 : w35.cell? ⟨w.heap.size, 1, none⟩ = some (.slice T m ct) := (hb35.cell (p := ⟨w.heap.size, 1, none⟩) (by go_simp)).trans (by go_simp)
  have lb1_44 : w.heap.size + 1 < w35.heap.size := Nat.lt_of_lt_of_le (by go_simp) hb35.size
  have yb1_0_44 : w35.cell? ⟨w.heap.size + 1, 0, none⟩ = some (.slice A q ca) := (hb35.cell (p := ⟨w.heap.size + 1, 0, none⟩) (by go_simp)).trans (by go_simp)
  have lb2_44 : w.heap.size + 2 < w35.heap.size := Nat.lt_of_lt_of_le (by go_simp) hb35.size
  have yb2_0_44 : w35.cell? ⟨w.heap.size + 2, 0, none⟩ = some (.slice C nb cb) := (hb35.cell (p := ⟨w.heap.size + 2, 0, none⟩) (by go_simp)).trans (by go_simp)
  have lb3_44 : w.heap.size + 3 < w35.heap.size := Nat.lt_of_lt_of_le (by go_simp) hb35.size
  have yb3_0_44 : w35.cell? ⟨w.heap.size + 3, 0, none⟩ = some (.int .i64 dx) := (hb35.cell (p := ⟨w.heap.size + 3, 0, none⟩) (by go_simp)).trans (by go_simp)
  have yb3_1_44 : w35.cell? ⟨w.heap.size + 3, 1, none⟩ = some (.int .i64 dy) := (hb35.cell (p := ⟨w.heap.size + 3, 1, none⟩) (by go_simp)).trans (by go_simp)
  have lb4_44 : bF4 < w35.heap.size := Nat.lt_of_lt_of_le (by go_simp) hb35.size
  have yb4_0_44 : w35.cell? ⟨bF4, 0, none⟩ = some (.slice V9 (combR gs ts xs ys tt dx dy).1.length c9) := (hb35.cell (p := ⟨bF4, 0, none⟩) (by go_simp)).trans (by go_simp)
  have lb5_44 : w11.heap.size < w35.heap.size := Nat.lt_of_lt_of_le (by go_simp) hb35.size
  have yb5_0_44 : w35.cell? ⟨w11.heap.size, 0, none⟩ = some (.slice G11 n n) := (hb35.cell (p := ⟨w11.heap.size, 0, none⟩) (by go_simp)).trans (by go_simp)
  have yb5_1_44 : w35.cell? ⟨w11.heap.size, 1, none⟩ = some (.slice T11 m m) := (hb35.cell (p := ⟨w11.heap.size, 1, none⟩) (by go_simp)).trans (by go_simp)
  have lb6_44 : w12.heap.size < w35.heap.size := Nat.lt_of_lt_of_le (by go_simp) hb35.size
  have yb6_0_44 : w35.cell? ⟨w12.heap.size, 0, none⟩ = some (.slice A12 q q) := (hb35.cell (p := ⟨w12.heap.size, 0, none⟩) (by go_simp)).trans (by go_simp)
  have lb7_44 : w13.heap.size < w35.heap.size := Nat.lt_of_lt_of_le (by go_simp) hb35.size
  have yb7_0_44 : w35.cell? ⟨w13.heap.size, 0, none⟩ = some (.slice A13 nb nb) := (hb35.cell (p := ⟨w13.heap.size, 0, none⟩) (by go_simp)).trans (by go_simp)
  have lb8_44 : bF15 < w35.heap.size := Nat.lt_of_lt_of_le (by go_simp) hb35.size
  have yb8_0_44 : w35.cell? ⟨bF15, 0, none⟩ = some (.slice V17 (combR gs ts xs ys tt dx dy).1.length c17) := (hb35.cell (p := ⟨bF15, 0, none⟩) (by go_simp)).trans (by go_simp)
  have Mc30_44 := Lib.hid (Marked.below (Marked.below Mc30_43.out bk_ om_) hb35 om_)
  clear hb35
  have kc35 : Below w35.heap.size w35 w35 := bl_refl _
  have o35H := Lib.hid o35
  clear o35
  with_reducible refine wpL_g rfl (fun K hK st36 w36u mv36 => ?_)
  have hu36 := mv36.below
  have fu36 := fd35.mv mv36
  have Hmv36 := Lib.hid mv36
  clear mv36
  have s45 : w35.heap.size ≤ w36u.heap.size := by have := hu36.size; (try simp at this); omega
  have s45H := Lib.hid s45
  have kw_45 : Below w.heap.size w w36u := bl_tr bk_ hu36
  have krV4_45 : Below w10.heap.size w10 w36u := bl_tr bk_ hu36
  have kR32_45 : Below w31.heap.size w31 w36u := bl_tr bk_ hu36
  have kc33_45 : Below w33.heap.size w33 w36u := bl_tr bk_ hu36
  have kc34_45 : Below w34.heap.size w34 w36u := bl_tr bk_ hu36
  have kc35_45 : Below w35.heap.size w35 w36u := bl_tr bk_ hu36
  have lb0_45 : w.heap.size < w36u.heap.size := Nat.lt_of_lt_of_le (by go_simp) hu36.size
  have yb0_0_45 : w36u.cell? ⟨w.heap.size, 0, none⟩ = some (.slice G n cg) := (hu36.cell (p := ⟨w.heap.size, 0, none⟩) (by go_simp)).trans (by go_simp)
  have yb0_1_45 : w36u.cell? ⟨w.heap.size, 1, none⟩ = some (.slice T m ct) := (hu36.cell (p := ⟨w.heap.size, 1, none⟩) (by go_simp)).trans (by go_simp)
  have lb1_45 : w.heap.size + 1 < w36u.heap.size := Nat.lt_of_lt_of_le (by go_simp) hu36.size
  have yb1_0_45 : w36u.cell? ⟨w.heap.size + 1, 0, none⟩ = some (.slice A q ca) := (hu36.cell (p := ⟨w.heap.size + 1, 0, none⟩) (by go_simp)).trans (by go_simp)
  have lb2_45 : w.heap.size + 2 < w36u.heap.size := Nat.lt_of_lt_of_le (by go_simp) hu36.size
  have yb2_0_45 : w36u.cell? ⟨w.heap.size + 2, 0, none⟩ = some (.slice C nb cb) := (hu36.cell (p := ⟨w.heap.size + 2, 0, none⟩) (by go_simp)).trans (by go_simp)
  have lb3_45 : w.heap.size + 3 < w36u.heap.size := Nat.lt_of_lt_of_le (by go_simp) hu36.size
  have yb3_0_45 : w36u.cell? ⟨w.heap.size + 3, 0, none⟩ = some (.int .i64 dx) := (hu36.cell (p := ⟨w.heap.size + 3, 0, none⟩) (by go_simp)).trans (by go_simp)
  have yb3_1_45 : w36u.cell? ⟨w.heap.size + 3, 1, none⟩ = some (.int .i64 dy) := (hu36.cell (p := ⟨w.heap.size + 3, 1, none⟩) (by go_simp)).trans (by go_simp)
  have lb4_45 : bF4 < w36u.heap.size := Nat.lt_of_lt_of_le (by go_simp) hu36.size
  have yb4_0_45 : w36u.cell? ⟨bF4, 0, none⟩ = some (.slice V9 (combR gs ts xs ys tt dx dy).1.length c9) := (hu36.cell (p := ⟨bF4, 0, none⟩) (by go_simp)).trans (by go_simp)
  have lb5_45 : w11.heap.size < w36u.heap.size := Nat.lt_of_lt_of_le (by go_simp) hu36.size
  have yb5_0_45 : w36u.cell? ⟨w11.heap.size, 0, none⟩ = some (.slice G11 n n) := (hu36.cell (p := ⟨w11.heap.size, 0, none⟩) (by go_simp)).trans (by go_simp)
  have yb5_1_45 : w36u.cell? ⟨w11.heap.size, 1, none⟩ = some (.slice T11 m m) := (hu36.cell (p := ⟨w11.heap.size, 1, none⟩) (by go_simp)).trans (by go_simp)
  have lb6_45 : w12.heap.size < w36u.heap.size := Nat.lt_of_lt_of_le (by go_simp) hu36.size
  have yb6_0_45 : w36u.cell? ⟨w12.heap.size, 0, none⟩ = some (.slice A12 q q) := (hu36.cell (p := ⟨w12.heap.size, 0, none⟩) (by go_simp)).trans (by go_simp)
  have lb7_45 : w13.heap.size < w36u.heap.size := Nat.lt_of_lt_of_le (by go_simp) hu36.size
  have yb7_0_45 : w36u.cell? ⟨w13.heap.size, 0, none⟩ = some (.slice A13 nb nb) := (hu36.cell (p := ⟨w13.heap.size, 0, none⟩) (by go_simp)).trans (by go_simp)
  have lb8_45 : bF15 < w36u.heap.size := Nat.lt_of_lt_of_le (by go_simp) hu36.size
  have yb8_0_45 : w36u.cell? ⟨bF15, 0, none⟩ = some (.slice V17 (combR gs ts xs ys tt dx dy).1.length c17) := (hu36.cell (p := ⟨bF15, 0, none⟩) (by go_simp)).trans (by go_simp)
  have Mc30_45 := Lib.hid (Marked.below (Marked.below Mc30_44.out bk_ om_) hu36 om_)
  go_simp
  refine (toPoint_any _ _ _).mono ?_
  rintro e w36 ⟨rfl, hb36⟩
  refine ⟨_, rfl, hb36, hK _ _ _ ?_⟩
  clear hK K
  have fd36 := fu36.below hb36
  have s46 : w36u.heap.size ≤ w36.heap.size := by have := hb36.size; (try simp at this); omega
  have s46H := Lib.hid s46
  have kw_46 : Below w.heap.size w w36 := bl_tr bk_ hb36
  have krV4_46 : Below w10.heap.size w10 w36 := bl_tr bk_ hb36
  have kR32_46 : Below w31.heap.size w31 w36 := bl_tr bk_ hb36
  have kc33_46 : Below w33.heap.size w33 w36 := bl_tr bk_ hb36
  have kc34_46 : Below w34.heap.size w34 w36 := bl_tr bk_ hb36
  have kc35_46 : Below w35.heap.size w35 w36 := bl_tr bk_ hb36
  have lb0_46 : w.heap.size < w36.heap.size := Nat.lt_of_lt_of_le (by go_simp) hb36.size
  have yb0_0_46 : w36.cell? ⟨w.heap.size, 0, none⟩ = some (.slice G n cg) := (hb36.cell (p := ⟨w.heap.size, 0, none⟩) (by go_simp)).trans (by go_simp)
  have yb0_1_46 : w36.cell? ⟨w.heap.size, 1, none⟩ = some (.slice T m ct) := (hb36.cell (p := ⟨w.heap.size, 1, none⟩) (by go_simp)).trans (by go_simp)
  have lb1_46 : w.heap.size + 1 < w36.heap.size := Nat.lt_of_lt_of_le (by go_simp) hb36.size
  have yb1_0_46 : w36.cell? ⟨w.heap.size + 1, 0, none⟩ = some (.slice A q ca) := (hb36.cell (p := ⟨w.heap.size + 1, 0, none⟩) (by go_simp)).trans (by go_simp)
  have lb2_46 : w.heap.size + 2 < w36.heap.size := Nat.lt_of_lt_of_le (by go_simp) hb36.size
  have yb2_0_46 : w36.cell? ⟨w.heap.size + 2, 0, none⟩ = some (.slice C nb cb) := (hb36.cell (p := ⟨w.heap.size + 2, 0, none⟩) (by go_simp)).trans (by go_simp)
  have lb3_46 : w.heap.size + 3 < w36.heap.size := Nat.lt_of_lt_of_le (by go_simp) hb36.size
  have yb3_0_46 : w36.cell? ⟨w.heap.size + 3, 0, none⟩ = some (.int .i64 dx) := (hb36.cell (p := ⟨w.heap.size + 3, 0, none⟩) (by go_simp)).trans (by go_simp)
  have yb3_1_46 : w36.cell? ⟨w.heap.size + 3, 1, none⟩ = some (.int .i64 dy) := (hb36.cell (p := ⟨w.heap.size + 3, 1, none⟩) (by go_simp)).trans (by go_simp)
  have lb4_46 : bF4 < w36.heap.size := Nat.lt_of_lt_of_le (by go_simp) hb36.size
  have yb4_0_46 : w36.cell? ⟨bF4, 0, none⟩ = some (.slice V9 (combR gs ts xs ys tt dx dy).1.length c9) := (hb36.cell (p := ⟨bF4, 0, none⟩) (by go_simp)).trans (by go_simp)
  have lb5_46 : w11.heap.size < w36.heap.size := Nat.lt_of_lt_of_le (by go_simp) hb36.size
  have yb5_0_46 : w36.cell? ⟨w11.heap.size, 0, none⟩ = some (.slice G11 n n) := (hb36.cell (p := ⟨w11.heap.size, 0, none⟩) (by go_simp)).trans (by go_simp)
  have yb5_1_46 : w36.cell? ⟨w11.heap.size, 1, none⟩ = some (.slice T11 m m) := (hb36.cell (p := ⟨w11.heap.size, 1, none⟩) (by go_simp)).trans (by go_simp)
  have lb6_46 : w12.heap.size < w36.heap.size := Nat.lt_of_lt_of_le (by go_simp) hb36.size
  have yb6_0_46 : w36.cell? ⟨w12.heap.size, 0, none⟩ = some (.slice A12 q q) := (hb36.cell (p := ⟨w12.heap.size, 0, none⟩) (by go_simp)).trans (by go_simp)
  have lb7_46 : w13.heap.size < w36.heap.size := Nat.lt_of_lt_of_le (by go_simp) hb36.size
  have yb7_0_46 : w36.cell? ⟨w13.heap.size, 0, none⟩ = some (.slice A13 nb nb) := (hb36.cell (p := ⟨w13.heap.size, 0, none⟩) (by go_simp)).trans (by go_simp)
  have lb8_46 : bF15 < w36.heap.size := Nat.lt_of_lt_of_le (by go_simp) hb36.size
  have yb8_0_46 : w36.cell? ⟨bF15, 0, none⟩ = some (.slice V17 (combR gs ts xs ys tt dx dy).1.length c17) := (hb36.cell (p := ⟨bF15, 0, none⟩) (by go_simp)).trans (by go_simp)
  have Mc30_46 := Lib.hid (Marked.below (Marked.below Mc30_45.out bk_ om_) hb36 om_)
  clear hb36
  with_reducible refine wpL_g rfl (fun K hK st37 w37u mv37 => ?_)
  have hu37 := mv37.below
  have fu37 := fd36.mv mv37
  have Hmv37 := Lib.hid mv37
  clear mv37
  have s47 : w36.heap.size ≤ w37u.heap.size := by have := hu37.size; (try simp at this); omega
  have s47H := Lib.hid s47
  have kw_47 : Below w.heap.size w w37u := bl_tr bk_ hu37
  have krV4_47 : Below w10.heap.size w10 w37u := bl_tr bk_ hu37
  have kR32_47 : Below w31.heap.size w31 w37u := bl_tr bk_ hu37
  have kc33_47 : Below w33.heap.size w33 w37u := bl_tr bk_ hu37
  have kc34_47 : Below w34.heap.size w34 w37u := bl_tr bk_ hu37
  have kc35_47 : Below w35.heap.size w35 w37u := bl_tr bk_ hu37
  have lb0_47 : w.heap.size < w37u.heap.size := Nat.lt_of_lt_of_le (by go_simp) hu37.size
  have yb0_0_47 : w37u.cell? ⟨w.heap.size, 0, none⟩ = some (.slice G n cg) := (hu37.cell (p := ⟨w.heap.size, 0, none⟩) (by go_simp)).trans (by go_simp)
  have yb0_1_47 : w37u.cell? ⟨w.heap.size, 1, none⟩ = some (.slice T m ct) := (hu37.cell (p := ⟨w.heap.size, 1, none⟩) (by go_simp)).trans (by go_simp)
  have lb1_47 : w.heap.size + 1 < w37u.heap.size := Nat.lt_of_lt_of_le (by go_simp) hu37.size
  have yb1_0_47 : w37u.cell? ⟨w.heap.size + 1, 0, none⟩ = some (.slice A q ca) := (hu37.cell (p := ⟨w.heap.size + 1, 0, none⟩) (by go_simp)).trans (by go_simp)
  have lb2_47 : w.heap.size + 2 < w37u.heap.size := Nat.lt_of_lt_of_le (by go_simp) hu37.size
  have yb2_0_47 : w37u.cell? ⟨w.heap.size + 2, 0, none⟩ = some (.slice C nb cb) := (hu37.cell (p := ⟨w.heap.size + 2, 0, none⟩) (by go_simp)).trans (by go_simp)
  have lb3_47 : w.heap.size + 3 < w37u.heap.size := Nat.lt_of_lt_of_le (by go_simp) hu37.size
  have yb3_0_47 : w37u.cell? ⟨w.heap.size + 3, 0, none⟩ = some (.int .i64 dx) := (hu37.cell (p := ⟨w.heap.size + 3, 0, none⟩) (by go_simp)).trans (by go_simp)
  have yb3_1_47 : w37u.cell? ⟨w.heap.size + 3, 1, none⟩ = some (.int .i64 dy) := (hu37.cell (p := ⟨w.heap.size + 3, 1, none⟩) (by go_simp)).trans (by go_simp)
  have lb4_47 : bF4 < w37u.heap.size := Nat.lt_of_lt_of_le (by go_simp) hu37.size
  have yb4_0_47 : w37u.cell? ⟨bF4, 0, none⟩ = some (.slice V9 (combR gs ts xs ys tt dx dy).1.length c9) := (hu37.cell (p := ⟨bF4, 0, none⟩) (by go_simp)).trans (by go_simp)
  have lb5_47 : w11.heap.size < w37u.heap.size := Nat.lt_of_lt_of_le (by go_simp) hu37.size
  have yb5_0_47 : w37u.cell? ⟨w11.heap.size, 0, none⟩ = some (.slice G11 n n) := (hu37.cell (p := ⟨w11.heap.size, 0, none⟩) (by go_simp)).trans (by go_simp)
  have yb5_1_47 : w37u.cell? ⟨w11.heap.size, 1, none⟩ = some (.slice T11 m m) := (hu37.cell (p := ⟨w11.heap.size, 1, none⟩) (by go_simp)).trans (by go_simp)
  have lb6_47 : w12.heap.size < w37u.heap.size := Nat.lt_of_lt_of_le (by go_simp) hu37.size
  have yb6_0_47 : w37u.cell? ⟨w12.heap.size, 0, none⟩ = some (.slice A12 q q) := (hu37.cell (p := ⟨w12.heap.size, 0, none⟩) (by go_simp)).trans (by go_simp)
  have lb7_47 : w13.heap.size < w37u.heap.size := Nat.lt_of_lt_of_le (by go_simp) hu37.size
  have yb7_0_47 : w37u.cell? ⟨w13.heap.size, 0, none⟩ = some (.slice A13 nb nb) := (hu37.cell (p := ⟨w13.heap.size, 0, none⟩) (by go_simp)).trans (by go_simp)
  have lb8_47 : bF15 < w37u.heap.size := Nat.lt_of_lt_of_le (by go_simp) hu37.size
  have yb8_0_47 : w37u.cell? ⟨bF15, 0, none⟩ = some (.slice V17 (combR gs ts xs ys tt dx dy).1.length c17) := (hu37.cell (p := ⟨bF15, 0, none⟩) (by go_simp)).trans (by go_simp)
  have Mc30_47 := Lib.hid (Marked.below (Marked.below Mc30_46.out bk_ om_) hu37 om_)
  go_simp
  refine (Combine_any _ _ _ _ _ _ _ _ _ _ _ _ gs ts xs ys tt dx dy _ ⟨o33H.out.rd.below RGl.stable bk_, p33H.out.rdTi.below RTi.stable bk_, o34H.out.rd.below RPl.stable bk_, by omega, by omega, by omega, hgk.out, htk.out⟩ ⟨o33H.out.rd.below RGl.stable bk_, p33H.out.rdTi.below RTi.stable bk_, o35H.out.rd.below RPl.stable bk_, by omega, by omega, by omega, hgk.out, htk.out⟩).mono ?_
  rintro e w37 ⟨V37, c37, rfl, v37, hb37⟩
  refine ⟨_, rfl, hb37, hK _ _ _ ?_⟩
  clear hK K
  have fd37 := fu37.below hb37
  have s48 : w37u.heap.size ≤ w37.heap.size := by have := hb37.size; (try simp at this); omega
  have s48H := Lib.hid s48
  have kw_48 : Below w.heap.size w w37 := bl_tr bk_ hb37
  have krV4_48 : Below w10.heap.size w10 w37 := bl_tr bk_ hb37
  have kR32_48 : Below w31.heap.size w31 w37 := bl_tr bk_ hb37
  have kc33_48 : Below w33.heap.size w33 w37 := bl_tr bk_ hb37
  have kc34_48 : Below w34.heap.size w34 w37 := bl_tr bk_ hb37
  have kc35_48 : Below w35.heap.size w35 w37 := bl_tr bk_ hb37
  have lb0_48 : w.heap.size < w37.heap.size := Nat.lt_of_lt_of_le (by go_simp) hb37.size
  have yb0_0_48 : w37.cell? ⟨w.heap.size, 0, none⟩ = some (.slice G n cg) := (hb37.cell (p := ⟨w.heap.size, 0, none⟩) (by go_simp)).trans (by go_simp)
  have yb0_1_48 : w37.cell? ⟨w.heap.size, 1, none⟩ = some (.slice T m ct) := (hb37.cell (p := ⟨w.heap.size, 1, none⟩) (by go_simp)).trans (by go_simp)
  have lb1_48 : w.heap.size + 1 < w37.heap.size := Nat.lt_of_lt_of_le (by go_simp) hb37.size
  have yb1_0_48 : w37.cell? ⟨w.heap.size + 1, 0, none⟩ = some (.slice A q ca) := (hb37.cell (p := ⟨w.heap.size + 1, 0, none⟩) (by go_simp)).trans (by go_simp)
  have lb2_48 : w.heap.size + 2 < w37.heap.size := Nat.lt_of_lt_of_le (by go_simp) hb37.size
  have yb2_0_48 : w37.cell? ⟨w.heap.size + 2, 0, none⟩ = some (.slice C nb cb) := (hb37.cell (p := ⟨w.heap.size + 2, 0, none⟩) (by go_simp)).trans (by go_simp)
  have lb3_48 : w.heap.size + 3 < w37.heap.size := Nat.lt_of_lt_of_le (by go_simp) hb37.size
  have yb3_0_48 : w37.cell? ⟨w.heap.size + 3, 0, none⟩ = some (.int .i64 dx) := (hb37.cell (p := ⟨w.heap.size + 3, 0, none⟩) (by go_simp)).trans (by go_simp)
  have yb3_1_48 : w37.cell? ⟨w.heap.size + 3, 1, none⟩ = some (.int .i64 dy) := (hb37.cell (p := ⟨w.heap.size + 3, 1, none⟩) (by go_simp)).trans (by go_simp)
  have lb4_48 : bF4 < w37.heap.size := Nat.lt_of_lt_of_le (by go_simp) hb37.size
  have yb4_0_48 : w37.cell? ⟨bF4, 0, none⟩ = some (.slice V9 (combR gs ts xs ys tt dx dy).1.length c9) := (hb37.cell (p := ⟨bF4, 0, none⟩) (by go_simp)).trans (by go_simp)
  have lb5_48 : w11.heap.size < w37.heap.size := Nat.lt_of_lt_of_le (by go_simp) hb37.size
  have yb5_0_48 : w37.cell? ⟨w11.heap.size, 0, none⟩ = some (.slice G11 n n) := (hb37.cell (p := ⟨w11.heap.size, 0, none⟩) (by go_simp)).trans (by go_simp)
  have yb5_1_48 : w37.cell? ⟨w11.heap.size, 1, none⟩ = some (.slice T11 m m) := (hb37.cell (p := ⟨w11.heap.size, 1, none⟩) (by go_simp)).trans (by go_simp)
  have lb6_48 : w12.heap.size < w37.heap.size := Nat.lt_of_lt_of_le (by go_simp) hb37.size
  have yb6_0_48 : w37.cell? ⟨w12.heap.size, 0, none⟩ = some (.slice A12 q q) := (hb37.cell (p := ⟨w12.heap.size, 0, none⟩) (by go_simp)).trans (by go_simp)
  have lb7_48 : w13.heap.size < w37.heap.size := Nat.lt_of_lt_of_le (by go_simp) hb37.size
  have yb7_0_48 : w37.cell? ⟨w13.heap.size, 0, none⟩ = some (.slice A13 nb nb) := (hb37.cell (p := ⟨w13.heap.size, 0, none⟩) (by go_simp)).trans (by go_simp)
  have lb8_48 : bF15 < w37.heap.size := Nat.lt_of_lt_of_le (by go_simp) hb37.size
  have yb8_0_48 : w37.cell? ⟨bF15, 0, none⟩ = some (.slice V17 (combR gs ts xs ys tt dx dy).1.length c17) := (hb37.cell (p := ⟨bF15, 0, none⟩) (by go_simp)).trans (by go_simp)
  have Mc30_48 := Lib.hid (Marked.below (Marked.below Mc30_47.out bk_ om_) hb37 om_)
  clear hb37
  have kr37 : Below w37.heap.size w37 w37 := bl_refl _
  have hv37 : ∀ g, (.slice V37 (combR gs ts xs ys tt dx dy).1.length c37 : Value).ownBlock = some g → g < w37.heap.size := fun g e => (v37.lt g e).2
  have hv37H := Lib.hid hv37
  clear hv37
  have v37H := Lib.hid v37
  clear v37
  repeat (first | ((with_reducible refine wpL_p (fun K hK => ?_)); go_simp; refine hK _ ?_; clear hK K) | ((with_reducible refine wpL_q (fun K hK => ?_)); go_simp; (first | refine hK _ ?_ | (go_bits; refine hK _ ?_) | (go_bits; go_simp; refine hK _ ?_)); clear hK K))
  with_reducible refine wpL_nil (fun bF32 w32f mvF => ?_)
  have huF := mvF.below
  obtain ⟨fl32, fb32⟩ := (fd37.mv mvF).2 _ rfl
  clear mvF
  have s49 : w37.heap.size ≤ w32f.heap.size := by have := huF.size; (try simp at this); omega
  have s49H := Lib.hid s49
  have kw_49 : Below w.heap.size w w32f := bl_tr bk_ huF
  have krV4_49 : Below w10.heap.size w10 w32f := bl_tr bk_ huF
  have kR32_49 : Below w31.heap.size w31 w32f := bl_tr bk_ huF
  have kc33_49 : Below w33.heap.size w33 w32f := bl_tr bk_ huF
  have kc34_49 : Below w34.heap.size w34 w32f := bl_tr bk_ huF
  have kc35_49 : Below w35.heap.size w35 w32f := bl_tr bk_ huF
  have kr37_49 : Below w37.heap.size w37 w32f := bl_tr bk_ huF
  have lb0_49 : w.heap.size < w32f.heap.size := Nat.lt_of_lt_of_le (by go_simp) huF.size
  have yb0_0_49 : w32f.cell? ⟨w.heap.size, 0, none⟩ = some (.slice G n cg) := (huF.cell (p := ⟨w.heap.size, 0, none⟩) (by go_simp)).trans (by go_simp)
  have yb0_1_49 : w32f.cell? ⟨w.heap.size, 1, none⟩ = some (.slice T m ct) := (huF.cell (p := ⟨w.heap.size, 1, none⟩) (by go_simp)).trans (by go_simp)
  have lb1_49 : w.heap.size + 1 < w32f.heap.size := Nat.lt_of_lt_of_le (by go_simp) huF.size
  have yb1_0_49 : w32f.cell? ⟨w.heap.size + 1, 0, none⟩ = some (.slice A q ca) := (huF.cell (p := ⟨w.heap.size + 1, 0, none⟩) (by go_simp)).trans (by go_simp)
  have lb2_49 : w.heap.size + 2 < w32f.heap.size := Nat.lt_of_lt_of_le (by go_simp) huF.size
  have yb2_0_49 : w32f.cell? ⟨w.heap.size + 2, 0, none⟩ = some (.slice C nb cb) := (huF.cell (p := ⟨w.heap.size + 2, 0, none⟩) (by go_simp)).trans (by go_simp)
  have lb3_49 : w.heap.size + 3 < w32f.heap.size := Nat.lt_of_lt_of_le (by go_simp) huF.size
  have yb3_0_49 : w32f.cell? ⟨w.heap.size + 3, 0, none⟩ = some (.int .i64 dx) := (huF.cell (p := ⟨w.heap.size + 3, 0, none⟩) (by go_simp)).trans (by go_simp)
  have yb3_1_49 : w32f.cell? ⟨w.heap.size + 3, 1, none⟩ = some (.int .i64 dy) := (huF.cell (p := ⟨w.heap.size + 3, 1, none⟩) (by go_simp)).trans (by go_simp)
  have lb4_49 : bF4 < w32f.heap.size := Nat.lt_of_lt_of_le (by go_simp) huF.size
  have yb4_0_49 : w32f.cell? ⟨bF4, 0, none⟩ = some (.slice V9 (combR gs ts xs ys tt dx dy).1.length c9) := (huF.cell (p := ⟨bF4, 0, none⟩) (by go_simp)).trans (by go_simp)
  have lb5_49 : w11.heap.size < w32f.heap.size := Nat.lt_of_lt_of_le (by go_simp) huF.size
  have yb5_0_49 : w32f.cell? ⟨w11.heap.size, 0, none⟩ = some (.slice G11 n n) := (huF.cell (p := ⟨w11.heap.size, 0, none⟩) (by go_simp)).trans (by go_simp)
  have yb5_1_49 : w32f.cell? ⟨w11.heap.size, 1, none⟩ = some (.slice T11 m m) := (huF.cell (p := ⟨w11.heap.size, 1, none⟩) (by go_simp)).trans (by go_simp)
  have lb6_49 : w12.heap.size < w32f.heap.size := Nat.lt_of_lt_of_le (by go_simp) huF.size
  have yb6_0_49 : w32f.cell? ⟨w12.heap.size, 0, none⟩ = some (.slice A12 q q) := (huF.cell (p := ⟨w12.heap.size, 0, none⟩) (by go_simp)).trans (by go_simp)
  have lb7_49 : w13.heap.size < w32f.heap.size := Nat.lt_of_lt_of_le (by go_simp) huF.size
  have yb7_0_49 : w32f.cell? ⟨w13.heap.size, 0, none⟩ = some (.slice A13 nb nb) := (huF.cell (p := ⟨w13.heap.size, 0, none⟩) (by go_simp)).trans (by go_simp)
  have lb8_49 : bF15 < w32f.heap.size := Nat.lt_of_lt_of_le (by go_simp) huF.size
  have yb8_0_49 : w32f.cell? ⟨bF15, 0, none⟩ = some (.slice V17 (combR gs ts xs ys tt dx dy).1.length c17) := (huF.cell (p := ⟨bF15, 0, none⟩) (by go_simp)).trans (by go_simp)
  have Mc30_49 := Lib.hid (Marked.below (Marked.below Mc30_48.out bk_ om_) huF om_)
  simp only [World.size_drew] at fl32
  have rF : w32f.rowIs bF32 35 1 (fun i => (#[.slice none 0 0] : Array Value).getD i undef) := ⟨_, fb32, rfl, fun i hi => by simp [hi]⟩
  have yF0 := rF.cell (i := 0) (by decide)
  have kF0 := rF.frozen 0
  have rFH := Lib.hid rF
  clear rF
  have vF37_0 := ownsRow_below v37H.out kr37_49
  have vF37_0H := Lib.hid vF37_0
  clear vF37_0
  simp only [flPtr]
  with_reducible refine wpD_b (fun K hK => ?_)
  go_simp
  refine hK _ _ ?_
  clear hK K
  repeat (first | ((with_reducible refine wpD_p (fun K hK => ?_)); go_simp; refine hK _ ?_; clear hK K) | ((with_reducible refine wpD_q (fun K hK => ?_)); go_simp; (first | refine hK _ ?_ | (go_bits; refine hK _ ?_) | (go_bits; go_simp; refine hK _ ?_)); clear hK K))
  with_reducible refine wpD_nil ?_
  obtain ⟨w38, hV⟩ : ∃ V, V = (w32f.setCell ⟨bF32, 0, none⟩ (.slice V37 (combR gs ts xs ys tt dx dy).1.length c37)) := ⟨_, rfl⟩
  rw [← hV]
  have rV := (rFH.out.set 0 (.slice V37 (combR gs ts xs ys tt dx dy).1.length c37))
  have hb38 := (kR32_49.setCell (p := ⟨bF32, 0, none⟩) fl32 (.slice V37 (combR gs ts xs ys tt dx dy).1.length c37))
  rw [← hV] at rV hb38
  have yg32_0 : w38.cell? ⟨bF32, 0, none⟩ = some (.slice V37 (combR gs ts xs ys tt dx dy).1.length c37) := by rw [rV.cell (i := 0) (by decide)]; simp
  have lg32 := rV.lt
  have sF32H := Lib.hid lg32
  have vV37_0 := (ownsRow_setCell_other (a := ⟨bF32, 0, none⟩) vF37_0H.out (own_ne_row vF37_0H.out rFH.out (by decide)) (.slice V37 (combR gs ts xs ys tt dx dy).1.length c37))
  rw [← hV] at vV37_0
  have vV37_0H := Lib.hid vV37_0
  clear vV37_0
  clear yF0 kF0 rV
  have s50 : w31.heap.size ≤ w38.heap.size := by have := hb38.size; (try simp at this); omega
  have s50H := Lib.hid s50
  have kw_50 : Below w.heap.size w w38 := bl_tr bk_ hb38
  have krV4_50 : Below w10.heap.size w10 w38 := bl_tr bk_ hb38
  have lb0_50 : w.heap.size < w38.heap.size := Nat.lt_of_lt_of_le (by go_simp) hb38.size
  have yb0_0_50 : w38.cell? ⟨w.heap.size, 0, none⟩ = some (.slice G n cg) := (hb38.cell (p := ⟨w.heap.size, 0, none⟩) (by go_simp)).trans (by go_simp)
  have yb0_1_50 : w38.cell? ⟨w.heap.size, 1, none⟩ = some (.slice T m ct) := (hb38.cell (p := ⟨w.heap.size, 1, none⟩) (by go_simp)).trans (by go_simp)
  have lb1_50 : w.heap.size + 1 < w38.heap.size := Nat.lt_of_lt_of_le (by go_simp) hb38.size
  have yb1_0_50 : w38.cell? ⟨w.heap.size + 1, 0, none⟩ = some (.slice A q ca) := (hb38.cell (p := ⟨w.heap.size + 1, 0, none⟩) (by go_simp)).trans (by go_simp)
  have lb2_50 : w.heap.size + 2 < w38.heap.size := Nat.lt_of_lt_of_le (by go_simp) hb38.size
  have yb2_0_50 : w38.cell? ⟨w.heap.size + 2, 0, none⟩ = some (.slice C nb cb) := (hb38.cell (p := ⟨w.heap.size + 2, 0, none⟩) (by go_simp)).trans (by go_simp)
  have lb3_50 : w.heap.size + 3 < w38.heap.size := Nat.lt_of_lt_of_le (by go_simp) hb38.size
  have yb3_0_50 : w38.cell? ⟨w.heap.size + 3, 0, none⟩ = some (.int .i64 dx) := (hb38.cell (p := ⟨w.heap.size + 3, 0, none⟩) (by go_simp)).trans (by go_simp)
  have yb3_1_50 : w38.cell? ⟨w.heap.size + 3, 1, none⟩ = some (.int .i64 dy) := (hb38.cell (p := ⟨w.heap.size + 3, 1, none⟩) (by go_simp)).trans (by go_simp)
  have lb4_50 : bF4 < w38.heap.size := Nat.lt_of_lt_of_le (by go_simp) hb38.size
  have yb4_0_50 : w38.cell? ⟨bF4, 0, none⟩ = some (.slice V9 (combR gs ts xs ys tt dx dy).1.length c9) := (hb38.cell (p := ⟨bF4, 0, none⟩) (by go_simp)).trans (by go_simp)
  have lb5_50 : w11.heap.size < w38.heap.size := Nat.lt_of_lt_of_le (by go_simp) hb38.size
  have yb5_0_50 : w38.cell? ⟨w11.heap.size, 0, none⟩ = some (.slice G11 n n) := (hb38.cell (p := ⟨w11.heap.size, 0, none⟩) (by go_simp)).trans (by go_simp)
  have yb5_1_50 : w38.cell? ⟨w11.heap.size, 1, none⟩ = some (.slice T11 m m) := (hb38.cell (p := ⟨w11.heap.size, 1, none⟩) (by go_simp)).trans (by go_simp)
  have lb6_50 : w12.heap.size < w38.heap.size := Nat.lt_of_lt_of_le (by go_simp) hb38.size
  have yb6_0_50 : w38.cell? ⟨w12.heap.size, 0, none⟩ = some (.slice A12 q q) := (hb38.cell (p := ⟨w12.heap.size, 0, none⟩) (by go_simp)).trans (by go_simp)
  have lb7_50 : w13.heap.size < w38.heap.size := Nat.lt_of_lt_of_le (by go_simp) hb38.size
  have yb7_0_50 : w38.cell? ⟨w13.heap.size, 0, none⟩ = some (.slice A13 nb nb) := (hb38.cell (p := ⟨w13.heap.size, 0, none⟩) (by go_simp)).trans (by go_simp)
  have lb8_50 : bF15 < w38.heap.size := Nat.lt_of_lt_of_le (by go_simp) hb38.size
  have yb8_0_50 : w38.cell? ⟨bF15, 0, none⟩ = some (.slice V17 (combR gs ts xs ys tt dx dy).1.length c17) := (hb38.cell (p := ⟨bF15, 0, none⟩) (by go_simp)).trans (by go_simp)
  have Mc30_50 := Lib.hid (Marked.below (Marked.below Mc30_38.out bk_ om_) hb38 om_)
  clear Mc30_38 yb8_0_38 lb8_38 yb7_0_38 lb7_38 yb6_0_38 lb6_38 yb5_1_38 yb5_0_38 lb5_38 yb4_0_38 lb4_38 yb3_1_38 yb3_0_38 lb3_38 yb2_0_38 lb2_38 yb1_0_38 lb1_38 yb0_1_38 yb0_0_38 lb0_38 krV4_38 kw_38 s50
  clear hV hb38
  have krV32 : Below w38.heap.size w38 w38 := bl_refl _
  go_wp2_with fail
  refine (eqAssembly_same _ _ _ _ _ (combR gs ts xs ys tt dx dy).1 _ ((rdPl vV37_0H.out).below RPl.stable bk_) ((rdPl vV9_0H.out).below RPl.stable bk_) hRl.out).mono ?_
  rintro e w39 ⟨rfl, hb39⟩
  have s51 : w38.heap.size ≤ w39.heap.size := by have := hb39.size; (try simp at this); omega
  have s51H := Lib.hid s51
  have kw_51 : Below w.heap.size w w39 := bl_tr bk_ hb39
  have krV4_51 : Below w10.heap.size w10 w39 := bl_tr bk_ hb39
  have krV32_51 : Below w38.heap.size w38 w39 := bl_tr bk_ hb39
  have lb0_51 : w.heap.size < w39.heap.size := Nat.lt_of_lt_of_le (by go_simp) hb39.size
  have yb0_0_51 : w39.cell? ⟨w.heap.size, 0, none⟩ = some (.slice G n cg) := (hb39.cell (p := ⟨w.heap.size, 0, none⟩) (by go_simp)).trans (by go_simp)
  have yb0_1_51 : w39.cell? ⟨w.heap.size, 1, none⟩ = some (.slice T m ct) := (hb39.cell (p := ⟨w.heap.size, 1, none⟩) (by go_simp)).trans (by go_simp)
  have lb1_51 : w.heap.size + 1 < w39.heap.size := Nat.lt_of_lt_of_le (by go_simp) hb39.size
  have yb1_0_51 : w39.cell? ⟨w.heap.size + 1, 0, none⟩ = some (.slice A q ca) := (hb39.cell (p := ⟨w.heap.size + 1, 0, none⟩) (by go_simp)).trans (by go_simp)
  have lb2_51 : w.heap.size + 2 < w39.heap.size := Nat.lt_of_lt_of_le (by go_simp) hb39.size
  have yb2_0_51 : w39.cell? ⟨w.heap.size + 2, 0, none⟩ = some (.slice C nb cb) := (hb39.cell (p := ⟨w.heap.size + 2, 0, none⟩) (by go_simp)).trans (by go_simp)
  have lb3_51 : w.heap.size + 3 < w39.heap.size := Nat.lt_of_lt_of_le (by go_simp) hb39.size
  have yb3_0_51 : w39.cell? ⟨w.heap.size + 3, 0, none⟩ = some (.int .i64 dx) := (hb39.cell (p := ⟨w.heap.size + 3, 0, none⟩) (by go_simp)).trans (by go_simp)
  have yb3_1_51 : w39.cell? ⟨w.heap.size + 3, 1, none⟩ = some (.int .i64 dy) := (hb39.cell (p := ⟨w.heap.size + 3, 1, none⟩) (by go_simp)).trans (by go_simp)
  have lb4_51 : bF4 < w39.heap.size := Nat.lt_of_lt_of_le (by go_simp) hb39.size
  have yb4_0_51 : w39.cell? ⟨bF4, 0, none⟩ = some (.slice V9 (combR gs ts xs ys tt dx dy).1.length c9) := (hb39.cell (p := ⟨bF4, 0, none⟩) (by go_simp)).trans (by go_simp)
  have lb5_51 : w11.heap.size < w39.heap.size := Nat.lt_of_lt_of_le (by go_simp) hb39.size
  have yb5_0_51 : w39.cell? ⟨w11.heap.size, 0, none⟩ = some (.slice G11 n n) := (hb39.cell (p := ⟨w11.heap.size, 0, none⟩) (by go_simp)).trans (by go_simp)
  have yb5_1_51 : w39.cell? ⟨w11.heap.size, 1, none⟩ = some (.slice T11 m m) := (hb39.cell (p := ⟨w11.heap.size, 1, none⟩) (by go_simp)).trans (by go_simp)
  have lb6_51 : w12.heap.size < w39.heap.size := Nat.lt_of_lt_of_le (by go_simp) hb39.size
  have yb6_0_51 : w39.cell? ⟨w12.heap.size, 0, none⟩ = some (.slice A12 q q) := (hb39.cell (p := ⟨w12.heap.size, 0, none⟩) (by go_simp)).trans (by go_simp)
  have lb7_51 : w13.heap.size < w39.heap.size := Nat.lt_of_lt_of_le (by go_simp) hb39.size
  have yb7_0_51 : w39.cell? ⟨w13.heap.size, 0, none⟩ = some (.slice A13 nb nb) := (hb39.cell (p := ⟨w13.heap.size, 0, none⟩) (by go_simp)).trans (by go_simp)
  have lb8_51 : bF15 < w39.heap.size := Nat.lt_of_lt_of_le (by go_simp) hb39.size
  have yb8_0_51 : w39.cell? ⟨bF15, 0, none⟩ = some (.slice V17 (combR gs ts xs ys tt dx dy).1.length c17) := (hb39.cell (p := ⟨bF15, 0, none⟩) (by go_simp)).trans (by go_simp)
  have lb9_51 : bF32 < w39.heap.size := Nat.lt_of_lt_of_le (by go_simp) hb39.size
  have yb9_0_51 : w39.cell? ⟨bF32, 0, none⟩ = some (.slice V37 (combR gs ts xs ys tt dx dy).1.length c37) := (hb39.cell (p := ⟨bF32, 0, none⟩) (by go_simp)).trans (by go_simp)
  have Mc30_51 := Lib.hid (Marked.below (Marked.below Mc30_50.out bk_ om_) hb39 om_)
  clear Mc30_50 yg32_0 lg32 yb8_0_50 lb8_50 yb7_0_50 lb7_50 yb6_0_50 lb6_50 yb5_1_50 yb5_0_50 lb5_50 yb4_0_50 lb4_50 yb3_1_50 yb3_0_50 lb3_50 yb2_0_50 lb2_50 yb1_0_50 lb1_50 yb0_1_50 yb0_0_50 lb0_50 krV32 krV4_50 kw_50 s51
  clear hb39
  go_wp2_with fail
  refine (heldAssembly_any _ _ _ 1 _ _ _ (Marked.below Mc30_51.out bk_ om_) om_ (by have := hRl.out; omega)).mono ?_
  rintro e w40 ⟨rfl, hb40⟩
  have s52 : w39.heap.size ≤ w40.heap.size := by have := hb40.size; (try simp at this); omega
  have s52H := Lib.hid s52
  have kw_52 : Below w.heap.size w w40 := bl_tr bk_ hb40
  have krV4_52 : Below w10.heap.size w10 w40 := bl_tr bk_ hb40
  have krV32_52 : Below w38.heap.size w38 w40 := bl_tr bk_ hb40
  have lb0_52 : w.heap.size < w40.heap.size := Nat.lt_of_lt_of_le (by go_simp) hb40.size
  have yb0_0_52 : w40.cell? ⟨w.heap.size, 0, none⟩ = some (.slice G n cg) := (hb40.cell (p := ⟨w.heap.size, 0, none⟩) (by go_simp)).trans (by go_simp)
  have yb0_1_52 : w40.cell? ⟨w.heap.size, 1, none⟩ = some (.slice T m ct) := (hb40.cell (p := ⟨w.heap.size, 1, none⟩) (by go_simp)).trans (by go_simp)
  have lb1_52 : w.heap.size + 1 < w40.heap.size := Nat.lt_of_lt_of_le (by go_simp) hb40.size
  have yb1_0_52 : w40.cell? ⟨w.heap.size + 1, 0, none⟩ = some (.slice A q ca) := (hb40.cell (p := ⟨w.heap.size + 1, 0, none⟩) (by go_simp)).trans (by go_simp)
  have lb2_52 : w.heap.size + 2 < w40.heap.size := Nat.lt_of_lt_of_le (by go_simp) hb40.size
  have yb2_0_52 : w40.cell? ⟨w.heap.size + 2, 0, none⟩ = some (.slice C nb cb) := (hb40.cell (p := ⟨w.heap.size + 2, 0, none⟩) (by go_simp)).trans (by go_simp)
  have lb3_52 : w.heap.size + 3 < w40.heap.size := Nat.lt_of_lt_of_le (by go_simp) hb40.size
  have yb3_0_52 : w40.cell? ⟨w.heap.size + 3, 0, none⟩ = some (.int .i64 dx) := (hb40.cell (p := ⟨w.heap.size + 3, 0, none⟩) (by go_simp)).trans (by go_simp)
  have yb3_1_52 : w40.cell? ⟨w.heap.size + 3, 1, none⟩ = some (.int .i64 dy) := (hb40.cell (p := ⟨w.heap.size + 3, 1, none⟩) (by go_simp)).trans (by go_simp)
  have lb4_52 : bF4 < w40.heap.size := Nat.lt_of_lt_of_le (by go_simp) hb40.size
  have yb4_0_52 : w40.cell? ⟨bF4, 0, none⟩ = some (.slice V9 (combR gs ts xs ys tt dx dy).1.length c9) := (hb40.cell (p := ⟨bF4, 0, none⟩) (by go_simp)).trans (by go_simp)
  have lb5_52 : w11.heap.size < w40.heap.size := Nat.lt_of_lt_of_le (by go_simp) hb40.size
  have yb5_0_52 : w40.cell? ⟨w11.heap.size, 0, none⟩ = some (.slice G11 n n) := (hb40.cell (p := ⟨w11.heap.size, 0, none⟩) (by go_simp)).trans (by go_simp)
  have yb5_1_52 : w40.cell? ⟨w11.heap.size, 1, none⟩ = some (.slice T11 m m) := (hb40.cell (p := ⟨w11.heap.size, 1, none⟩) (by go_simp)).trans (by go_simp)
  have lb6_52 : w12.heap.size < w40.heap.size := Nat.lt_of_lt_of_le (by go_simp) hb40.size
  have yb6_0_52 : w40.cell? ⟨w12.heap.size, 0, none⟩ = some (.slice A12 q q) := (hb40.cell (p := ⟨w12.heap.size, 0, none⟩) (by go_simp)).trans (by go_simp)
  have lb7_52 : w13.heap.size < w40.heap.size := Nat.lt_of_lt_of_le (by go_simp) hb40.size
  have yb7_0_52 : w40.cell? ⟨w13.heap.size, 0, none⟩ = some (.slice A13 nb nb) := (hb40.cell (p := ⟨w13.heap.size, 0, none⟩) (by go_simp)).trans (by go_simp)
  have lb8_52 : bF15 < w40.heap.size := Nat.lt_of_lt_of_le (by go_simp) hb40.size
  have yb8_0_52 : w40.cell? ⟨bF15, 0, none⟩ = some (.slice V17 (combR gs ts xs ys tt dx dy).1.length c17) := (hb40.cell (p := ⟨bF15, 0, none⟩) (by go_simp)).trans (by go_simp)
  have lb9_52 : bF32 < w40.heap.size := Nat.lt_of_lt_of_le (by go_simp) hb40.size
  have yb9_0_52 : w40.cell? ⟨bF32, 0, none⟩ = some (.slice V37 (combR gs ts xs ys tt dx dy).1.length c37) := (hb40.cell (p := ⟨bF32, 0, none⟩) (by go_simp)).trans (by go_simp)
  have Mc30_52 := Lib.hid (Marked.below (Marked.below Mc30_51.out bk_ om_) hb40 om_)
  clear Mc30_51 yb9_0_51 lb9_51 yb8_0_51 lb8_51 yb7_0_51 lb7_51 yb6_0_51 lb6_51 yb5_1_51 yb5_0_51 lb5_51 yb4_0_51 lb4_51 yb3_1_51 yb3_0_51 lb3_51 yb2_0_51 lb2_51 yb1_0_51 lb1_51 yb0_1_51 yb0_0_51 lb0_51 krV32_51 krV4_51 kw_51 s52
  clear hb40
  go_wp2_with fail
  go_ret
  exact ⟨rfl, bk_⟩
end Go.Proofs.YtedihnokcpnikaaGreat
