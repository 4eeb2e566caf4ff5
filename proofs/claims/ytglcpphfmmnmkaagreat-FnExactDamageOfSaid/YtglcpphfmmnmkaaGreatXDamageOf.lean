/- Walk: the law FnExactDamageOf. -/
import Derived.Test.YtglcpphfmmnmkaaGreatKQ
import Derived.Test.YtglcpphfmmnmkaaGreatKH
namespace Go.Proofs.YtglcpphfmmnmkaaGreat
open Go.RowKit
set_option linter.unusedSimpArgs false
set_option linter.unusedVariables false
attribute [local go_sem] BelowBy.cell BelowBy.cell_drew stillUpon givesUpon BelowBy.cell_drew2 BelowBy.cell_drew3

set_option maxRecDepth 100000 in
set_option maxHeartbeats 4000000 in
theorem FnExactDamageOf_any (G : Option Addr) (n cg : Nat) (gs : List Gl) (T : Option Addr) (m ct : Nat) (ts : List Ti) (A : Option Addr) (q ca : Nat) (xs : List Pl) (t : Int) (D : Option Addr) (nd cd : Nat) (rs : List Pl) (C : Option Addr) (nb cb : Nat) (ys : List Pl) (w : World) (hG : RdSl 2 RGl w G n gs) (hT : RdSl 2 RTi w T m ts) (hln : n ≤ 9223372036854775807) (hlm : m ≤ 9223372036854775807) (hgn : ∀ e ∈ gs, e.name.size ≤ 9223372036854775807) (htn : ∀ e ∈ ts, e.name.size ≤ 9223372036854775807 ∧ e.sides.length ≤ 9223372036854775807) (hA : RdSl 3 RPl w A q xs) (hlq : q ≤ 9223372036854775807) (hD : RdSl 3 RPl w D nd rs) (hlnd : nd ≤ 9223372036854775807) (hC : RdSl 3 RPl w C nb ys) (hlnb : nb ≤ 9223372036854775807) :
    Calls Tryz.prog 4 #[.agg #[.slice G n cg, .slice T m ct, .slice A q ca, .int .i64 t], .agg #[.slice D nd cd], .agg #[.slice C nb cb]] w fun e w' => e = .returned (.bool true) ∧ Below w.heap.size w w' := by
  have hgnH := Lib.hid hgn
  have htnH := Lib.hid htn
  have hgk := Lib.hid (fun (k : Nat) (e : Gl) (h : gs[k]? = some e) => hgn e (List.mem_of_getElem? h))
  have htk := Lib.hid (fun (k : Nat) (e : Ti) (h : ts[k]? = some e) => htn e (List.mem_of_getElem? h))
  clear hgn htn
  have hRl := Lib.hid (dmgR_len gs ts xs t rs ys)
  go_enter Tryz.func4, Tryz.ntmps4
  have kw := bl_refl w
  go_wp2_with fail
  refine (szSystem_any _ _ _ _ _ _ _ _ _ gs ts _ _ _ (hG.below RGl.stable bk_) (hT.below RTi.stable bk_) (by omega) (by omega) hln hlm hgnH.out htnH.out hlq).mono ?_
  rintro e w1 ⟨r1, rfl, (rfl | ⟨hr10, hr11, ⟨⟨hzn, hx1⟩, hzm, hx2⟩, hzq⟩), hb1⟩
  · go_wp2
    go_ret
    exact ⟨rfl, bl_tr bk_ hb1⟩
  have htsH := Lib.hid (show ∀ e ∈ ts, e.sides.length ≤ 1073741824 from fun e he => by have := (hx2 e he).2; omega)
  clear hx1 hx2
  have s1 : w.heap.size + 3 ≤ w1.heap.size := by have := hb1.size; (try simp at this); omega
  have s1H := Lib.hid s1
  have kw_1 : Below w.heap.size w w1 := bl_tr bk_ hb1
  have lb0_1 : w.heap.size < w1.heap.size := Nat.lt_of_lt_of_le (by go_simp) hb1.size
  have yb0_0_1 : w1.cell? ⟨w.heap.size, 0, none⟩ = some (.slice G n cg) := (hb1.cell (p := ⟨w.heap.size, 0, none⟩) (by go_simp)).trans (by go_simp)
  have yb0_1_1 : w1.cell? ⟨w.heap.size, 1, none⟩ = some (.slice T m ct) := (hb1.cell (p := ⟨w.heap.size, 1, none⟩) (by go_simp)).trans (by go_simp)
  have yb0_2_1 : w1.cell? ⟨w.heap.size, 2, none⟩ = some (.slice A q ca) := (hb1.cell (p := ⟨w.heap.size, 2, none⟩) (by go_simp)).trans (by go_simp)
  have yb0_3_1 : w1.cell? ⟨w.heap.size, 3, none⟩ = some (.int .i64 t) := (hb1.cell (p := ⟨w.heap.size, 3, none⟩) (by go_simp)).trans (by go_simp)
  have lb1_1 : w.heap.size + 1 < w1.heap.size := Nat.lt_of_lt_of_le (by go_simp) hb1.size
  have yb1_0_1 : w1.cell? ⟨w.heap.size + 1, 0, none⟩ = some (.slice D nd cd) := (hb1.cell (p := ⟨w.heap.size + 1, 0, none⟩) (by go_simp)).trans (by go_simp)
  have lb2_1 : w.heap.size + 2 < w1.heap.size := Nat.lt_of_lt_of_le (by go_simp) hb1.size
  have yb2_0_1 : w1.cell? ⟨w.heap.size + 2, 0, none⟩ = some (.slice C nb cb) := (hb1.cell (p := ⟨w.heap.size + 2, 0, none⟩) (by go_simp)).trans (by go_simp)
  clear kw s1
  clear hb1
  go_wp2_with fail
  refine (szAssembly_any _ _ _ _ _ (by omega) (by omega) hlnd).mono ?_
  rintro e w2 ⟨r2, rfl, (rfl | ⟨hr20, hr21, hznd⟩), hb2⟩
  · go_wp2
    go_ret
    exact ⟨rfl, bl_tr bk_ hb2⟩
  have s2 : w1.heap.size ≤ w2.heap.size := by have := hb2.size; (try simp at this); omega
  have s2H := Lib.hid s2
  have kw_2 : Below w.heap.size w w2 := bl_tr bk_ hb2
  have lb0_2 : w.heap.size < w2.heap.size := Nat.lt_of_lt_of_le (by go_simp) hb2.size
  have yb0_0_2 : w2.cell? ⟨w.heap.size, 0, none⟩ = some (.slice G n cg) := (hb2.cell (p := ⟨w.heap.size, 0, none⟩) (by go_simp)).trans (by go_simp)
  have yb0_1_2 : w2.cell? ⟨w.heap.size, 1, none⟩ = some (.slice T m ct) := (hb2.cell (p := ⟨w.heap.size, 1, none⟩) (by go_simp)).trans (by go_simp)
  have yb0_2_2 : w2.cell? ⟨w.heap.size, 2, none⟩ = some (.slice A q ca) := (hb2.cell (p := ⟨w.heap.size, 2, none⟩) (by go_simp)).trans (by go_simp)
  have yb0_3_2 : w2.cell? ⟨w.heap.size, 3, none⟩ = some (.int .i64 t) := (hb2.cell (p := ⟨w.heap.size, 3, none⟩) (by go_simp)).trans (by go_simp)
  have lb1_2 : w.heap.size + 1 < w2.heap.size := Nat.lt_of_lt_of_le (by go_simp) hb2.size
  have yb1_0_2 : w2.cell? ⟨w.heap.size + 1, 0, none⟩ = some (.slice D nd cd) := (hb2.cell (p := ⟨w.heap.size + 1, 0, none⟩) (by go_simp)).trans (by go_simp)
  have lb2_2 : w.heap.size + 2 < w2.heap.size := Nat.lt_of_lt_of_le (by go_simp) hb2.size
  have yb2_0_2 : w2.cell? ⟨w.heap.size + 2, 0, none⟩ = some (.slice C nb cb) := (hb2.cell (p := ⟨w.heap.size + 2, 0, none⟩) (by go_simp)).trans (by go_simp)
  clear yb2_0_1 lb2_1 yb1_0_1 lb1_1 yb0_3_1 yb0_2_1 yb0_1_1 yb0_0_1 lb0_1 kw_1 s2
  clear hb2
  go_wp2_with fail
  refine (szAssembly_any _ _ _ _ _ (by omega) (by omega) hlnb).mono ?_
  rintro e w3 ⟨r3, rfl, (rfl | ⟨hr30, hr31, hznb⟩), hb3⟩
  · go_wp2
    go_ret
    exact ⟨rfl, bl_tr bk_ hb3⟩
  have s3 : w2.heap.size ≤ w3.heap.size := by have := hb3.size; (try simp at this); omega
  have s3H := Lib.hid s3
  have kw_3 : Below w.heap.size w w3 := bl_tr bk_ hb3
  have lb0_3 : w.heap.size < w3.heap.size := Nat.lt_of_lt_of_le (by go_simp) hb3.size
  have yb0_0_3 : w3.cell? ⟨w.heap.size, 0, none⟩ = some (.slice G n cg) := (hb3.cell (p := ⟨w.heap.size, 0, none⟩) (by go_simp)).trans (by go_simp)
  have yb0_1_3 : w3.cell? ⟨w.heap.size, 1, none⟩ = some (.slice T m ct) := (hb3.cell (p := ⟨w.heap.size, 1, none⟩) (by go_simp)).trans (by go_simp)
  have yb0_2_3 : w3.cell? ⟨w.heap.size, 2, none⟩ = some (.slice A q ca) := (hb3.cell (p := ⟨w.heap.size, 2, none⟩) (by go_simp)).trans (by go_simp)
  have yb0_3_3 : w3.cell? ⟨w.heap.size, 3, none⟩ = some (.int .i64 t) := (hb3.cell (p := ⟨w.heap.size, 3, none⟩) (by go_simp)).trans (by go_simp)
  have lb1_3 : w.heap.size + 1 < w3.heap.size := Nat.lt_of_lt_of_le (by go_simp) hb3.size
  have yb1_0_3 : w3.cell? ⟨w.heap.size + 1, 0, none⟩ = some (.slice D nd cd) := (hb3.cell (p := ⟨w.heap.size + 1, 0, none⟩) (by go_simp)).trans (by go_simp)
  have lb2_3 : w.heap.size + 2 < w3.heap.size := Nat.lt_of_lt_of_le (by go_simp) hb3.size
  have yb2_0_3 : w3.cell? ⟨w.heap.size + 2, 0, none⟩ = some (.slice C nb cb) := (hb3.cell (p := ⟨w.heap.size + 2, 0, none⟩) (by go_simp)).trans (by go_simp)
  clear yb2_0_2 lb2_2 yb1_0_2 lb1_2 yb0_3_2 yb0_2_2 yb0_1_2 yb0_0_2 lb0_2 kw_2 s3
  clear hb3
  have kR4 : Below w3.heap.size w3 w3 := bl_refl _
  go_wp2_with fail
  refine wp_region_fl 10 [(0, .q), (2, .q), (4, .q), (1, .g), (3, .g), (5, .g), (6, .g), (7, .q), (8, .q), (9, .p)] [(11, .b), (12, .q)] _ (Obj.cells #[.slice none 0 0, .slice none 0 0, .slice none 0 0] 58) (by kernel_rfl) (by kernel_rfl) (by kernel_rfl) (by kernel_rfl) rfl (fun a w => ⟨rfl, by unfold flPtr; go_simp⟩) ?_
  simp only [pick, List.filterMap_cons, List.filterMap_nil, List.getElem?_toArray, List.getElem?_cons_zero, List.getElem?_cons_succ, Option.map_some]
  repeat (first | ((with_reducible refine wpL_p (fun K hK => ?_)); go_simp; refine hK _ ?_; clear hK K) | ((with_reducible refine wpL_q (fun K hK => ?_)); go_simp; (first | refine hK _ ?_ | (go_bits; refine hK _ ?_) | (go_bits; go_simp; refine hK _ ?_)); clear hK K))
  with_reducible refine wpL_g rfl (fun K hK st5 w5u mv5 => ?_)
  have hu5 := mv5.below
  have fu5 := (FlAt.none (Obj.cells #[.slice none 0 0, .slice none 0 0, .slice none 0 0] 58) (World.drew _)).mv mv5
  have Hmv5 := Lib.hid mv5
  clear mv5
  have s4 : w3.heap.size ≤ w5u.heap.size := by have := hu5.size; (try simp at this); omega
  have s4H := Lib.hid s4
  have kw_4 : Below w.heap.size w w5u := bl_tr bk_ hu5
  have kR4_4 : Below w3.heap.size w3 w5u := bl_tr bk_ hu5
  have lb0_4 : w.heap.size < w5u.heap.size := Nat.lt_of_lt_of_le (by go_simp) hu5.size
  have yb0_0_4 : w5u.cell? ⟨w.heap.size, 0, none⟩ = some (.slice G n cg) := (hu5.cell (p := ⟨w.heap.size, 0, none⟩) (by go_simp)).trans (by go_simp)
  have yb0_1_4 : w5u.cell? ⟨w.heap.size, 1, none⟩ = some (.slice T m ct) := (hu5.cell (p := ⟨w.heap.size, 1, none⟩) (by go_simp)).trans (by go_simp)
  have yb0_2_4 : w5u.cell? ⟨w.heap.size, 2, none⟩ = some (.slice A q ca) := (hu5.cell (p := ⟨w.heap.size, 2, none⟩) (by go_simp)).trans (by go_simp)
  have yb0_3_4 : w5u.cell? ⟨w.heap.size, 3, none⟩ = some (.int .i64 t) := (hu5.cell (p := ⟨w.heap.size, 3, none⟩) (by go_simp)).trans (by go_simp)
  have lb1_4 : w.heap.size + 1 < w5u.heap.size := Nat.lt_of_lt_of_le (by go_simp) hu5.size
  have yb1_0_4 : w5u.cell? ⟨w.heap.size + 1, 0, none⟩ = some (.slice D nd cd) := (hu5.cell (p := ⟨w.heap.size + 1, 0, none⟩) (by go_simp)).trans (by go_simp)
  have lb2_4 : w.heap.size + 2 < w5u.heap.size := Nat.lt_of_lt_of_le (by go_simp) hu5.size
  have yb2_0_4 : w5u.cell? ⟨w.heap.size + 2, 0, none⟩ = some (.slice C nb cb) := (hu5.cell (p := ⟨w.heap.size + 2, 0, none⟩) (by go_simp)).trans (by go_simp)
  go_simp
  refine (toSystemM_any _ _ _ _ _ _ _ _ _ gs ts xs _ _ (hG.below RGl.stable bk_) (hT.below RTi.stable bk_) (hA.below RPl.stable bk_) (by omega) (by omega) htsH.out (by omega)).mono ?_
  rintro e w5 ⟨G5, T5, A5, md5, rfl, o5, p5, z5, ms5, hb5⟩
  refine ⟨_, rfl, hb5, hK _ _ _ ?_⟩
  clear hK K
  have fd5 := fu5.below hb5
  have s5 : w5u.heap.size ≤ w5.heap.size := by have := hb5.size; (try simp at this); omega
  have s5H := Lib.hid s5
  have kw_5 : Below w.heap.size w w5 := bl_tr bk_ hb5
  have kR4_5 : Below w3.heap.size w3 w5 := bl_tr bk_ hb5
  have lb0_5 : w.heap.size < w5.heap.size := Nat.lt_of_lt_of_le (by go_simp) hb5.size
  have yb0_0_5 : w5.cell? ⟨w.heap.size, 0, none⟩ = some (.slice G n cg) := (hb5.cell (p := ⟨w.heap.size, 0, none⟩) (by go_simp)).trans (by go_simp)
  have yb0_1_5 : w5.cell? ⟨w.heap.size, 1, none⟩ = some (.slice T m ct) := (hb5.cell (p := ⟨w.heap.size, 1, none⟩) (by go_simp)).trans (by go_simp)
  have yb0_2_5 : w5.cell? ⟨w.heap.size, 2, none⟩ = some (.slice A q ca) := (hb5.cell (p := ⟨w.heap.size, 2, none⟩) (by go_simp)).trans (by go_simp)
  have yb0_3_5 : w5.cell? ⟨w.heap.size, 3, none⟩ = some (.int .i64 t) := (hb5.cell (p := ⟨w.heap.size, 3, none⟩) (by go_simp)).trans (by go_simp)
  have lb1_5 : w.heap.size + 1 < w5.heap.size := Nat.lt_of_lt_of_le (by go_simp) hb5.size
  have yb1_0_5 : w5.cell? ⟨w.heap.size + 1, 0, none⟩ = some (.slice D nd cd) := (hb5.cell (p := ⟨w.heap.size + 1, 0, none⟩) (by go_simp)).trans (by go_simp)
  have lb2_5 : w.heap.size + 2 < w5.heap.size := Nat.lt_of_lt_of_le (by go_simp) hb5.size
  have yb2_0_5 : w5.cell? ⟨w.heap.size + 2, 0, none⟩ = some (.slice C nb cb) := (hb5.cell (p := ⟨w.heap.size + 2, 0, none⟩) (by go_simp)).trans (by go_simp)
  clear hb5
  have kc5 : Below w5.heap.size w5 w5 := bl_refl _
  have o5H := Lib.hid o5
  clear o5
  have p5H := Lib.hid p5
  clear p5
  have z5H := Lib.hid z5
  clear z5
  have ms5H := Lib.hid ms5
  clear ms5
  with_reducible refine wpL_g rfl (fun K hK st6 w6u mv6 => ?_)
  have hu6 := mv6.below
  have fu6 := fd5.mv mv6
  have Hmv6 := Lib.hid mv6
  clear mv6
  have s6 : w5.heap.size ≤ w6u.heap.size := by have := hu6.size; (try simp at this); omega
  have s6H := Lib.hid s6
  have kw_6 : Below w.heap.size w w6u := bl_tr bk_ hu6
  have kR4_6 : Below w3.heap.size w3 w6u := bl_tr bk_ hu6
  have kc5_6 : Below w5.heap.size w5 w6u := bl_tr bk_ hu6
  have lb0_6 : w.heap.size < w6u.heap.size := Nat.lt_of_lt_of_le (by go_simp) hu6.size
  have yb0_0_6 : w6u.cell? ⟨w.heap.size, 0, none⟩ = some (.slice G n cg) := (hu6.cell (p := ⟨w.heap.size, 0, none⟩) (by go_simp)).trans (by go_simp)
  have yb0_1_6 : w6u.cell? ⟨w.heap.size, 1, none⟩ = some (.slice T m ct) := (hu6.cell (p := ⟨w.heap.size, 1, none⟩) (by go_simp)).trans (by go_simp)
  have yb0_2_6 : w6u.cell? ⟨w.heap.size, 2, none⟩ = some (.slice A q ca) := (hu6.cell (p := ⟨w.heap.size, 2, none⟩) (by go_simp)).trans (by go_simp)
  have yb0_3_6 : w6u.cell? ⟨w.heap.size, 3, none⟩ = some (.int .i64 t) := (hu6.cell (p := ⟨w.heap.size, 3, none⟩) (by go_simp)).trans (by go_simp)
  have lb1_6 : w.heap.size + 1 < w6u.heap.size := Nat.lt_of_lt_of_le (by go_simp) hu6.size
  have yb1_0_6 : w6u.cell? ⟨w.heap.size + 1, 0, none⟩ = some (.slice D nd cd) := (hu6.cell (p := ⟨w.heap.size + 1, 0, none⟩) (by go_simp)).trans (by go_simp)
  have lb2_6 : w.heap.size + 2 < w6u.heap.size := Nat.lt_of_lt_of_le (by go_simp) hu6.size
  have yb2_0_6 : w6u.cell? ⟨w.heap.size + 2, 0, none⟩ = some (.slice C nb cb) := (hu6.cell (p := ⟨w.heap.size + 2, 0, none⟩) (by go_simp)).trans (by go_simp)
  go_simp
  refine (toAssembly_any _ _ _ rs _ (hD.below RPl.stable bk_) (by omega)).mono ?_
  rintro e w6 ⟨A6, rfl, o6, hb6⟩
  refine ⟨_, rfl, hb6, hK _ _ _ ?_⟩
  clear hK K
  have fd6 := fu6.below hb6
  have s7 : w6u.heap.size ≤ w6.heap.size := by have := hb6.size; (try simp at this); omega
  have s7H := Lib.hid s7
  have kw_7 : Below w.heap.size w w6 := bl_tr bk_ hb6
  have kR4_7 : Below w3.heap.size w3 w6 := bl_tr bk_ hb6
  have kc5_7 : Below w5.heap.size w5 w6 := bl_tr bk_ hb6
  have lb0_7 : w.heap.size < w6.heap.size := Nat.lt_of_lt_of_le (by go_simp) hb6.size
  have yb0_0_7 : w6.cell? ⟨w.heap.size, 0, none⟩ = some (.slice G n cg) := (hb6.cell (p := ⟨w.heap.size, 0, none⟩) (by go_simp)).trans (by go_simp)
  have yb0_1_7 : w6.cell? ⟨w.heap.size, 1, none⟩ = some (.slice T m ct) := (hb6.cell (p := ⟨w.heap.size, 1, none⟩) (by go_simp)).trans (by go_simp)
  have yb0_2_7 : w6.cell? ⟨w.heap.size, 2, none⟩ = some (.slice A q ca) := (hb6.cell (p := ⟨w.heap.size, 2, none⟩) (by go_simp)).trans (by go_simp)
  have yb0_3_7 : w6.cell? ⟨w.heap.size, 3, none⟩ = some (.int .i64 t) := (hb6.cell (p := ⟨w.heap.size, 3, none⟩) (by go_simp)).trans (by go_simp)
  have lb1_7 : w.heap.size + 1 < w6.heap.size := Nat.lt_of_lt_of_le (by go_simp) hb6.size
  have yb1_0_7 : w6.cell? ⟨w.heap.size + 1, 0, none⟩ = some (.slice D nd cd) := (hb6.cell (p := ⟨w.heap.size + 1, 0, none⟩) (by go_simp)).trans (by go_simp)
  have lb2_7 : w.heap.size + 2 < w6.heap.size := Nat.lt_of_lt_of_le (by go_simp) hb6.size
  have yb2_0_7 : w6.cell? ⟨w.heap.size + 2, 0, none⟩ = some (.slice C nb cb) := (hb6.cell (p := ⟨w.heap.size + 2, 0, none⟩) (by go_simp)).trans (by go_simp)
  clear hb6
  have kc6 : Below w6.heap.size w6 w6 := bl_refl _
  have o6H := Lib.hid o6
  clear o6
  with_reducible refine wpL_g rfl (fun K hK st7 w7u mv7 => ?_)
  have hu7 := mv7.below
  have fu7 := fd6.mv mv7
  have Hmv7 := Lib.hid mv7
  clear mv7
  have s8 : w6.heap.size ≤ w7u.heap.size := by have := hu7.size; (try simp at this); omega
  have s8H := Lib.hid s8
  have kw_8 : Below w.heap.size w w7u := bl_tr bk_ hu7
  have kR4_8 : Below w3.heap.size w3 w7u := bl_tr bk_ hu7
  have kc5_8 : Below w5.heap.size w5 w7u := bl_tr bk_ hu7
  have kc6_8 : Below w6.heap.size w6 w7u := bl_tr bk_ hu7
  have lb0_8 : w.heap.size < w7u.heap.size := Nat.lt_of_lt_of_le (by go_simp) hu7.size
  have yb0_0_8 : w7u.cell? ⟨w.heap.size, 0, none⟩ = some (.slice G n cg) := (hu7.cell (p := ⟨w.heap.size, 0, none⟩) (by go_simp)).trans (by go_simp)
  have yb0_1_8 : w7u.cell? ⟨w.heap.size, 1, none⟩ = some (.slice T m ct) := (hu7.cell (p := ⟨w.heap.size, 1, none⟩) (by go_simp)).trans (by go_simp)
  have yb0_2_8 : w7u.cell? ⟨w.heap.size, 2, none⟩ = some (.slice A q ca) := (hu7.cell (p := ⟨w.heap.size, 2, none⟩) (by go_simp)).trans (by go_simp)
  have yb0_3_8 : w7u.cell? ⟨w.heap.size, 3, none⟩ = some (.int .i64 t) := (hu7.cell (p := ⟨w.heap.size, 3, none⟩) (by go_simp)).trans (by go_simp)
  have lb1_8 : w.heap.size + 1 < w7u.heap.size := Nat.lt_of_lt_of_le (by go_simp) hu7.size
  have yb1_0_8 : w7u.cell? ⟨w.heap.size + 1, 0, none⟩ = some (.slice D nd cd) := (hu7.cell (p := ⟨w.heap.size + 1, 0, none⟩) (by go_simp)).trans (by go_simp)
  have lb2_8 : w.heap.size + 2 < w7u.heap.size := Nat.lt_of_lt_of_le (by go_simp) hu7.size
  have yb2_0_8 : w7u.cell? ⟨w.heap.size + 2, 0, none⟩ = some (.slice C nb cb) := (hu7.cell (p := ⟨w.heap.size + 2, 0, none⟩) (by go_simp)).trans (by go_simp)
  go_simp
  refine (toAssembly_any _ _ _ ys _ (hC.below RPl.stable bk_) (by omega)).mono ?_
  rintro e w7 ⟨A7, rfl, o7, hb7⟩
  refine ⟨_, rfl, hb7, hK _ _ _ ?_⟩
  clear hK K
  have fd7 := fu7.below hb7
  have s9 : w7u.heap.size ≤ w7.heap.size := by have := hb7.size; (try simp at this); omega
  have s9H := Lib.hid s9
  have kw_9 : Below w.heap.size w w7 := bl_tr bk_ hb7
  have kR4_9 : Below w3.heap.size w3 w7 := bl_tr bk_ hb7
  have kc5_9 : Below w5.heap.size w5 w7 := bl_tr bk_ hb7
  have kc6_9 : Below w6.heap.size w6 w7 := bl_tr bk_ hb7
  have lb0_9 : w.heap.size < w7.heap.size := Nat.lt_of_lt_of_le (by go_simp) hb7.size
  have yb0_0_9 : w7.cell? ⟨w.heap.size, 0, none⟩ = some (.slice G n cg) := (hb7.cell (p := ⟨w.heap.size, 0, none⟩) (by go_simp)).trans (by go_simp)
  have yb0_1_9 : w7.cell? ⟨w.heap.size, 1, none⟩ = some (.slice T m ct) := (hb7.cell (p := ⟨w.heap.size, 1, none⟩) (by go_simp)).trans (by go_simp)
  have yb0_2_9 : w7.cell? ⟨w.heap.size, 2, none⟩ = some (.slice A q ca) := (hb7.cell (p := ⟨w.heap.size, 2, none⟩) (by go_simp)).trans (by go_simp)
  have yb0_3_9 : w7.cell? ⟨w.heap.size, 3, none⟩ = some (.int .i64 t) := (hb7.cell (p := ⟨w.heap.size, 3, none⟩) (by go_simp)).trans (by go_simp)
  have lb1_9 : w.heap.size + 1 < w7.heap.size := Nat.lt_of_lt_of_le (by go_simp) hb7.size
  have yb1_0_9 : w7.cell? ⟨w.heap.size + 1, 0, none⟩ = some (.slice D nd cd) := (hb7.cell (p := ⟨w.heap.size + 1, 0, none⟩) (by go_simp)).trans (by go_simp)
  have lb2_9 : w.heap.size + 2 < w7.heap.size := Nat.lt_of_lt_of_le (by go_simp) hb7.size
  have yb2_0_9 : w7.cell? ⟨w.heap.size + 2, 0, none⟩ = some (.slice C nb cb) := (hb7.cell (p := ⟨w.heap.size + 2, 0, none⟩) (by go_simp)).trans (by go_simp)
  clear hb7
  have kc7 : Below w7.heap.size w7 w7 := bl_refl _
  have o7H := Lib.hid o7
  clear o7
  with_reducible refine wpL_g rfl (fun K hK st8 w8u mv8 => ?_)
  have hu8 := mv8.below
  have fu8 := fd7.mv mv8
  have Hmv8 := Lib.hid mv8
  clear mv8
  have s10 : w7.heap.size ≤ w8u.heap.size := by have := hu8.size; (try simp at this); omega
  have s10H := Lib.hid s10
  have kw_10 : Below w.heap.size w w8u := bl_tr bk_ hu8
  have kR4_10 : Below w3.heap.size w3 w8u := bl_tr bk_ hu8
  have kc5_10 : Below w5.heap.size w5 w8u := bl_tr bk_ hu8
  have kc6_10 : Below w6.heap.size w6 w8u := bl_tr bk_ hu8
  have kc7_10 : Below w7.heap.size w7 w8u := bl_tr bk_ hu8
  have lb0_10 : w.heap.size < w8u.heap.size := Nat.lt_of_lt_of_le (by go_simp) hu8.size
  have yb0_0_10 : w8u.cell? ⟨w.heap.size, 0, none⟩ = some (.slice G n cg) := (hu8.cell (p := ⟨w.heap.size, 0, none⟩) (by go_simp)).trans (by go_simp)
  have yb0_1_10 : w8u.cell? ⟨w.heap.size, 1, none⟩ = some (.slice T m ct) := (hu8.cell (p := ⟨w.heap.size, 1, none⟩) (by go_simp)).trans (by go_simp)
  have yb0_2_10 : w8u.cell? ⟨w.heap.size, 2, none⟩ = some (.slice A q ca) := (hu8.cell (p := ⟨w.heap.size, 2, none⟩) (by go_simp)).trans (by go_simp)
  have yb0_3_10 : w8u.cell? ⟨w.heap.size, 3, none⟩ = some (.int .i64 t) := (hu8.cell (p := ⟨w.heap.size, 3, none⟩) (by go_simp)).trans (by go_simp)
  have lb1_10 : w.heap.size + 1 < w8u.heap.size := Nat.lt_of_lt_of_le (by go_simp) hu8.size
  have yb1_0_10 : w8u.cell? ⟨w.heap.size + 1, 0, none⟩ = some (.slice D nd cd) := (hu8.cell (p := ⟨w.heap.size + 1, 0, none⟩) (by go_simp)).trans (by go_simp)
  have lb2_10 : w.heap.size + 2 < w8u.heap.size := Nat.lt_of_lt_of_le (by go_simp) hu8.size
  have yb2_0_10 : w8u.cell? ⟨w.heap.size + 2, 0, none⟩ = some (.slice C nb cb) := (hu8.cell (p := ⟨w.heap.size + 2, 0, none⟩) (by go_simp)).trans (by go_simp)
  go_simp
  refine (sDamageOf_any _ _ _ _ _ _ _ _ _ _ _ _ _ _ _ gs ts xs rs ys _ _ ⟨o5H.out.rd.below RGl.stable bk_, p5H.out.rdTi.below RTi.stable bk_, z5H.out.rd.below RPl.stable bk_, by omega, by omega, by omega, hgk.out, htk.out⟩ ⟨o5H.out.rd.below RGl.stable bk_, p5H.out.rdTi.below RTi.stable bk_, o6H.out.rd.below RPl.stable bk_, by omega, by omega, by omega, hgk.out, htk.out⟩ ⟨o5H.out.rd.below RGl.stable bk_, p5H.out.rdTi.below RTi.stable bk_, o7H.out.rd.below RPl.stable bk_, by omega, by omega, by omega, hgk.out, htk.out⟩).mono ?_
  rintro e w8 ⟨VA8, VB8, VC8, ka8, kb8, kd8, rfl, v8, hb8⟩
  refine ⟨_, rfl, hb8, hK _ _ _ ?_⟩
  clear hK K
  have fd8 := fu8.below hb8
  have s11 : w8u.heap.size ≤ w8.heap.size := by have := hb8.size; (try simp at this); omega
  have s11H := Lib.hid s11
  have kw_11 : Below w.heap.size w w8 := bl_tr bk_ hb8
  have kR4_11 : Below w3.heap.size w3 w8 := bl_tr bk_ hb8
  have kc5_11 : Below w5.heap.size w5 w8 := bl_tr bk_ hb8
  have kc6_11 : Below w6.heap.size w6 w8 := bl_tr bk_ hb8
  have kc7_11 : Below w7.heap.size w7 w8 := bl_tr bk_ hb8
  have lb0_11 : w.heap.size < w8.heap.size := Nat.lt_of_lt_of_le (by go_simp) hb8.size
  have yb0_0_11 : w8.cell? ⟨w.heap.size, 0, none⟩ = some (.slice G n cg) := (hb8.cell (p := ⟨w.heap.size, 0, none⟩) (by go_simp)).trans (by go_simp)
  have yb0_1_11 : w8.cell? ⟨w.heap.size, 1, none⟩ = some (.slice T m ct) := (hb8.cell (p := ⟨w.heap.size, 1, none⟩) (by go_simp)).trans (by go_simp)
  have yb0_2_11 : w8.cell? ⟨w.heap.size, 2, none⟩ = some (.slice A q ca) := (hb8.cell (p := ⟨w.heap.size, 2, none⟩) (by go_simp)).trans (by go_simp)
  have yb0_3_11 : w8.cell? ⟨w.heap.size, 3, none⟩ = some (.int .i64 t) := (hb8.cell (p := ⟨w.heap.size, 3, none⟩) (by go_simp)).trans (by go_simp)
  have lb1_11 : w.heap.size + 1 < w8.heap.size := Nat.lt_of_lt_of_le (by go_simp) hb8.size
  have yb1_0_11 : w8.cell? ⟨w.heap.size + 1, 0, none⟩ = some (.slice D nd cd) := (hb8.cell (p := ⟨w.heap.size + 1, 0, none⟩) (by go_simp)).trans (by go_simp)
  have lb2_11 : w.heap.size + 2 < w8.heap.size := Nat.lt_of_lt_of_le (by go_simp) hb8.size
  have yb2_0_11 : w8.cell? ⟨w.heap.size + 2, 0, none⟩ = some (.slice C nb cb) := (hb8.cell (p := ⟨w.heap.size + 2, 0, none⟩) (by go_simp)).trans (by go_simp)
  clear hb8
  have kr8 : Below w8.heap.size w8 w8 := bl_refl _
  have v8H := Lib.hid v8
  clear v8
  repeat (first | ((with_reducible refine wpL_p (fun K hK => ?_)); go_simp; refine hK _ ?_; clear hK K) | ((with_reducible refine wpL_q (fun K hK => ?_)); go_simp; (first | refine hK _ ?_ | (go_bits; refine hK _ ?_) | (go_bits; go_simp; refine hK _ ?_)); clear hK K))
  with_reducible refine wpL_nil (fun bF4 w4f mvF => ?_)
  have huF := mvF.below
  obtain ⟨fl4, fb4⟩ := (fd8.mv mvF).2 _ rfl
  clear mvF
  have s12 : w8.heap.size ≤ w4f.heap.size := by have := huF.size; (try simp at this); omega
  have s12H := Lib.hid s12
  have kw_12 : Below w.heap.size w w4f := bl_tr bk_ huF
  have kR4_12 : Below w3.heap.size w3 w4f := bl_tr bk_ huF
  have kc5_12 : Below w5.heap.size w5 w4f := bl_tr bk_ huF
  have kc6_12 : Below w6.heap.size w6 w4f := bl_tr bk_ huF
  have kc7_12 : Below w7.heap.size w7 w4f := bl_tr bk_ huF
  have kr8_12 : Below w8.heap.size w8 w4f := bl_tr bk_ huF
  have lb0_12 : w.heap.size < w4f.heap.size := Nat.lt_of_lt_of_le (by go_simp) huF.size
  have yb0_0_12 : w4f.cell? ⟨w.heap.size, 0, none⟩ = some (.slice G n cg) := (huF.cell (p := ⟨w.heap.size, 0, none⟩) (by go_simp)).trans (by go_simp)
  have yb0_1_12 : w4f.cell? ⟨w.heap.size, 1, none⟩ = some (.slice T m ct) := (huF.cell (p := ⟨w.heap.size, 1, none⟩) (by go_simp)).trans (by go_simp)
  have yb0_2_12 : w4f.cell? ⟨w.heap.size, 2, none⟩ = some (.slice A q ca) := (huF.cell (p := ⟨w.heap.size, 2, none⟩) (by go_simp)).trans (by go_simp)
  have yb0_3_12 : w4f.cell? ⟨w.heap.size, 3, none⟩ = some (.int .i64 t) := (huF.cell (p := ⟨w.heap.size, 3, none⟩) (by go_simp)).trans (by go_simp)
  have lb1_12 : w.heap.size + 1 < w4f.heap.size := Nat.lt_of_lt_of_le (by go_simp) huF.size
  have yb1_0_12 : w4f.cell? ⟨w.heap.size + 1, 0, none⟩ = some (.slice D nd cd) := (huF.cell (p := ⟨w.heap.size + 1, 0, none⟩) (by go_simp)).trans (by go_simp)
  have lb2_12 : w.heap.size + 2 < w4f.heap.size := Nat.lt_of_lt_of_le (by go_simp) huF.size
  have yb2_0_12 : w4f.cell? ⟨w.heap.size + 2, 0, none⟩ = some (.slice C nb cb) := (huF.cell (p := ⟨w.heap.size + 2, 0, none⟩) (by go_simp)).trans (by go_simp)
  simp only [World.size_drew] at fl4
  have rF : w4f.rowIs bF4 58 3 (fun i => (#[.slice none 0 0, .slice none 0 0, .slice none 0 0] : Array Value).getD i undef) := ⟨_, fb4, rfl, fun i hi => by simp [hi]⟩
  have yF0 := rF.cell (i := 0) (by decide)
  have kF0 := rF.frozen 0
  have yF1 := rF.cell (i := 1) (by decide)
  have kF1 := rF.frozen 1
  have yF2 := rF.cell (i := 2) (by decide)
  have kF2 := rF.frozen 2
  have rFH := Lib.hid rF
  clear rF
  have vF8_0 := Own3.below v8H.out kr8_12
  have vF8_0H := Lib.hid vF8_0
  clear vF8_0
  simp only [flPtr]
  with_reducible refine wpD_b (fun K hK => ?_)
  go_simp
  refine hK _ _ ?_
  clear hK K
  repeat (first | ((with_reducible refine wpD_p (fun K hK => ?_)); go_simp; refine hK _ ?_; clear hK K) | ((with_reducible refine wpD_q (fun K hK => ?_)); go_simp; (first | refine hK _ ?_ | (go_bits; refine hK _ ?_) | (go_bits; go_simp; refine hK _ ?_)); clear hK K))
  with_reducible refine wpD_nil ?_
  obtain ⟨w9, hV⟩ : ∃ V, V = (((w4f.setCell ⟨bF4, 0, none⟩ (.slice VA8 (dmgR gs ts xs t rs ys).1.p.length ka8)).setCell ⟨bF4, 1, none⟩ (.slice VB8 (dmgR gs ts xs t rs ys).1.q.length kb8)).setCell ⟨bF4, 2, none⟩ (.slice VC8 (dmgR gs ts xs t rs ys).1.r.length kd8)) := ⟨_, rfl⟩
  rw [← hV]
  have rV := (((rFH.out.set 0 (.slice VA8 (dmgR gs ts xs t rs ys).1.p.length ka8)).set 1 (.slice VB8 (dmgR gs ts xs t rs ys).1.q.length kb8)).set 2 (.slice VC8 (dmgR gs ts xs t rs ys).1.r.length kd8))
  have hb9 := (((kR4_12.setCell (p := ⟨bF4, 0, none⟩) fl4 (.slice VA8 (dmgR gs ts xs t rs ys).1.p.length ka8)).setCell (p := ⟨bF4, 1, none⟩) fl4 (.slice VB8 (dmgR gs ts xs t rs ys).1.q.length kb8)).setCell (p := ⟨bF4, 2, none⟩) fl4 (.slice VC8 (dmgR gs ts xs t rs ys).1.r.length kd8))
  rw [← hV] at rV hb9
  have yg4_0 : w9.cell? ⟨bF4, 0, none⟩ = some (.slice VA8 (dmgR gs ts xs t rs ys).1.p.length ka8) := by rw [rV.cell (i := 0) (by decide)]; simp
  have yg4_1 : w9.cell? ⟨bF4, 1, none⟩ = some (.slice VB8 (dmgR gs ts xs t rs ys).1.q.length kb8) := by rw [rV.cell (i := 1) (by decide)]; simp
  have yg4_2 : w9.cell? ⟨bF4, 2, none⟩ = some (.slice VC8 (dmgR gs ts xs t rs ys).1.r.length kd8) := by rw [rV.cell (i := 2) (by decide)]; simp
  have lg4 := rV.lt
  have sF4H := Lib.hid lg4
  have vV8_0 := (Own3.fl (g := bF4) (i := 2) (Own3.fl (g := bF4) (i := 1) (Own3.fl (g := bF4) (i := 0) vF8_0H.out rFH.out (by decide) (.slice VA8 (dmgR gs ts xs t rs ys).1.p.length ka8)) (rFH.out.set 0 (.slice VA8 (dmgR gs ts xs t rs ys).1.p.length ka8)) (by decide) (.slice VB8 (dmgR gs ts xs t rs ys).1.q.length kb8)) ((rFH.out.set 0 (.slice VA8 (dmgR gs ts xs t rs ys).1.p.length ka8)).set 1 (.slice VB8 (dmgR gs ts xs t rs ys).1.q.length kb8)) (by decide) (.slice VC8 (dmgR gs ts xs t rs ys).1.r.length kd8))
  rw [← hV] at vV8_0
  have vV8_0H := Lib.hid vV8_0
  clear vV8_0
  clear yF2 kF2 yF1 kF1 yF0 kF0 rV
  have s13 : w3.heap.size ≤ w9.heap.size := by have := hb9.size; (try simp at this); omega
  have s13H := Lib.hid s13
  have kw_13 : Below w.heap.size w w9 := bl_tr bk_ hb9
  have lb0_13 : w.heap.size < w9.heap.size := Nat.lt_of_lt_of_le (by go_simp) hb9.size
  have yb0_0_13 : w9.cell? ⟨w.heap.size, 0, none⟩ = some (.slice G n cg) := (hb9.cell (p := ⟨w.heap.size, 0, none⟩) (by go_simp)).trans (by go_simp)
  have yb0_1_13 : w9.cell? ⟨w.heap.size, 1, none⟩ = some (.slice T m ct) := (hb9.cell (p := ⟨w.heap.size, 1, none⟩) (by go_simp)).trans (by go_simp)
  have yb0_2_13 : w9.cell? ⟨w.heap.size, 2, none⟩ = some (.slice A q ca) := (hb9.cell (p := ⟨w.heap.size, 2, none⟩) (by go_simp)).trans (by go_simp)
  have yb0_3_13 : w9.cell? ⟨w.heap.size, 3, none⟩ = some (.int .i64 t) := (hb9.cell (p := ⟨w.heap.size, 3, none⟩) (by go_simp)).trans (by go_simp)
  have lb1_13 : w.heap.size + 1 < w9.heap.size := Nat.lt_of_lt_of_le (by go_simp) hb9.size
  have yb1_0_13 : w9.cell? ⟨w.heap.size + 1, 0, none⟩ = some (.slice D nd cd) := (hb9.cell (p := ⟨w.heap.size + 1, 0, none⟩) (by go_simp)).trans (by go_simp)
  have lb2_13 : w.heap.size + 2 < w9.heap.size := Nat.lt_of_lt_of_le (by go_simp) hb9.size
  have yb2_0_13 : w9.cell? ⟨w.heap.size + 2, 0, none⟩ = some (.slice C nb cb) := (hb9.cell (p := ⟨w.heap.size + 2, 0, none⟩) (by go_simp)).trans (by go_simp)
  clear yb2_0_3 lb2_3 yb1_0_3 lb1_3 yb0_3_3 yb0_2_3 yb0_1_3 yb0_0_3 lb0_3 kw_3 s13
  clear hV hb9
  have krV4 : Below w9.heap.size w9 w9 := bl_refl _
  go_wp2_with fail
  refine (toSystemM_any _ _ _ _ _ _ _ _ _ gs ts xs _ _ (hG.below RGl.stable bk_) (hT.below RTi.stable bk_) (hA.below RPl.stable bk_) (by omega) (by omega) htsH.out (by omega)).mono ?_
  rintro e w10 ⟨G10, T10, A10, md10, rfl, o10, p10, z10, ms10, hb10⟩
  have s14 : w9.heap.size ≤ w10.heap.size := by have := hb10.size; (try simp at this); omega
  have s14H := Lib.hid s14
  have kw_14 : Below w.heap.size w w10 := bl_tr bk_ hb10
  have krV4_14 : Below w9.heap.size w9 w10 := bl_tr bk_ hb10
  have lb0_14 : w.heap.size < w10.heap.size := Nat.lt_of_lt_of_le (by go_simp) hb10.size
  have yb0_0_14 : w10.cell? ⟨w.heap.size, 0, none⟩ = some (.slice G n cg) := (hb10.cell (p := ⟨w.heap.size, 0, none⟩) (by go_simp)).trans (by go_simp)
  have yb0_1_14 : w10.cell? ⟨w.heap.size, 1, none⟩ = some (.slice T m ct) := (hb10.cell (p := ⟨w.heap.size, 1, none⟩) (by go_simp)).trans (by go_simp)
  have yb0_2_14 : w10.cell? ⟨w.heap.size, 2, none⟩ = some (.slice A q ca) := (hb10.cell (p := ⟨w.heap.size, 2, none⟩) (by go_simp)).trans (by go_simp)
  have yb0_3_14 : w10.cell? ⟨w.heap.size, 3, none⟩ = some (.int .i64 t) := (hb10.cell (p := ⟨w.heap.size, 3, none⟩) (by go_simp)).trans (by go_simp)
  have lb1_14 : w.heap.size + 1 < w10.heap.size := Nat.lt_of_lt_of_le (by go_simp) hb10.size
  have yb1_0_14 : w10.cell? ⟨w.heap.size + 1, 0, none⟩ = some (.slice D nd cd) := (hb10.cell (p := ⟨w.heap.size + 1, 0, none⟩) (by go_simp)).trans (by go_simp)
  have lb2_14 : w.heap.size + 2 < w10.heap.size := Nat.lt_of_lt_of_le (by go_simp) hb10.size
  have yb2_0_14 : w10.cell? ⟨w.heap.size + 2, 0, none⟩ = some (.slice C nb cb) := (hb10.cell (p := ⟨w.heap.size + 2, 0, none⟩) (by go_simp)).trans (by go_simp)
  have lb3_14 : bF4 < w10.heap.size := Nat.lt_of_lt_of_le (by go_simp) hb10.size
  have yb3_0_14 : w10.cell? ⟨bF4, 0, none⟩ = some (.slice VA8 (dmgR gs ts xs t rs ys).1.p.length ka8) := (hb10.cell (p := ⟨bF4, 0, none⟩) (by go_simp)).trans (by go_simp)
  have yb3_1_14 : w10.cell? ⟨bF4, 1, none⟩ = some (.slice VB8 (dmgR gs ts xs t rs ys).1.q.length kb8) := (hb10.cell (p := ⟨bF4, 1, none⟩) (by go_simp)).trans (by go_simp)
  have yb3_2_14 : w10.cell? ⟨bF4, 2, none⟩ = some (.slice VC8 (dmgR gs ts xs t rs ys).1.r.length kd8) := (hb10.cell (p := ⟨bF4, 2, none⟩) (by go_simp)).trans (by go_simp)
  clear yg4_2 yg4_1 yg4_0 lg4 yb2_0_13 lb2_13 yb1_0_13 lb1_13 yb0_3_13 yb0_2_13 yb0_1_13 yb0_0_13 lb0_13 krV4 kw_13 s14
  clear hb10
  have kc10 : Below w10.heap.size w10 w10 := bl_refl _
  have o10H := Lib.hid o10
  clear o10
  have p10H := Lib.hid p10
  clear p10
  have z10H := Lib.hid z10
  clear z10
  have ms10H := Lib.hid ms10
  clear ms10
  go_wp2_with fail
  refine (toAssembly_any _ _ _ rs _ (hD.below RPl.stable bk_) (by omega)).mono ?_
  rintro e w11 ⟨A11, rfl, o11, hb11⟩
  have s15 : w10.heap.size + 1 ≤ w11.heap.size := by have := hb11.size; (try simp at this); omega
  have s15H := Lib.hid s15
  have kw_15 : Below w.heap.size w w11 := bl_tr bk_ hb11
  have krV4_15 : Below w9.heap.size w9 w11 := bl_tr bk_ hb11
  have kc10_15 : Below w10.heap.size w10 w11 := bl_tr bk_ hb11
  have lb0_15 : w.heap.size < w11.heap.size := Nat.lt_of_lt_of_le (by go_simp) hb11.size
  have yb0_0_15 : w11.cell? ⟨w.heap.size, 0, none⟩ = some (.slice G n cg) := (hb11.cell (p := ⟨w.heap.size, 0, none⟩) (by go_simp)).trans (by go_simp)
  have yb0_1_15 : w11.cell? ⟨w.heap.size, 1, none⟩ = some (.slice T m ct) := (hb11.cell (p := ⟨w.heap.size, 1, none⟩) (by go_simp)).trans (by go_simp)
  have yb0_2_15 : w11.cell? ⟨w.heap.size, 2, none⟩ = some (.slice A q ca) := (hb11.cell (p := ⟨w.heap.size, 2, none⟩) (by go_simp)).trans (by go_simp)
  have yb0_3_15 : w11.cell? ⟨w.heap.size, 3, none⟩ = some (.int .i64 t) := (hb11.cell (p := ⟨w.heap.size, 3, none⟩) (by go_simp)).trans (by go_simp)
  have lb1_15 : w.heap.size + 1 < w11.heap.size := Nat.lt_of_lt_of_le (by go_simp) hb11.size
  have yb1_0_15 : w11.cell? ⟨w.heap.size + 1, 0, none⟩ = some (.slice D nd cd) := (hb11.cell (p := ⟨w.heap.size + 1, 0, none⟩) (by go_simp)).trans (by go_simp)
  have lb2_15 : w.heap.size + 2 < w11.heap.size := Nat.lt_of_lt_of_le (by go_simp) hb11.size
  have yb2_0_15 : w11.cell? ⟨w.heap.size + 2, 0, none⟩ = some (.slice C nb cb) := (hb11.cell (p := ⟨w.heap.size + 2, 0, none⟩) (by go_simp)).trans (by go_simp)
  have lb3_15 : bF4 < w11.heap.size := Nat.lt_of_lt_of_le (by go_simp) hb11.size
  have yb3_0_15 : w11.cell? ⟨bF4, 0, none⟩ = some (.slice VA8 (dmgR gs ts xs t rs ys).1.p.length ka8) := (hb11.cell (p := ⟨bF4, 0, none⟩) (by go_simp)).trans (by go_simp)
  have yb3_1_15 : w11.cell? ⟨bF4, 1, none⟩ = some (.slice VB8 (dmgR gs ts xs t rs ys).1.q.length kb8) := (hb11.cell (p := ⟨bF4, 1, none⟩) (by go_simp)).trans (by go_simp)
  have yb3_2_15 : w11.cell? ⟨bF4, 2, none⟩ = some (.slice VC8 (dmgR gs ts xs t rs ys).1.r.length kd8) := (hb11.cell (p := ⟨bF4, 2, none⟩) (by go_simp)).trans (by go_simp)
  have lb4_15 : w10.heap.size < w11.heap.size := Nat.lt_of_lt_of_le (by go_simp) hb11.size
  have yb4_0_15 : w11.cell? ⟨w10.heap.size, 0, none⟩ = some (.slice G10 n n) := (hb11.cell (p := ⟨w10.heap.size, 0, none⟩) (by go_simp)).trans (by go_simp)
  have yb4_1_15 : w11.cell? ⟨w10.heap.size, 1, none⟩ = some (.slice T10 m m) := (hb11.cell (p := ⟨w10.heap.size, 1, none⟩) (by go_simp)).trans (by go_simp)
  have yb4_2_15 : w11.cell? ⟨w10.heap.size, 2, none⟩ = some (.slice A10 q q) := (hb11.cell (p := ⟨w10.heap.size, 2, none⟩) (by go_simp)).trans (by go_simp)
  have yb4_3_15 : w11.cell? ⟨w10.heap.size, 3, none⟩ = some (.int .i64 t) := (hb11.cell (p := ⟨w10.heap.size, 3, none⟩) (by go_simp)).trans (by go_simp)
  clear yb3_2_14 yb3_1_14 yb3_0_14 lb3_14 yb2_0_14 lb2_14 yb1_0_14 lb1_14 yb0_3_14 yb0_2_14 yb0_1_14 yb0_0_14 lb0_14 kc10 krV4_14 kw_14 s15
  clear hb11
  have kc11 : Below w11.heap.size w11 w11 := bl_refl _
  have o11H := Lib.hid o11
  clear o11
  go_wp2_with fail
  refine (toAssembly_any _ _ _ ys _ (hC.below RPl.stable bk_) (by omega)).mono ?_
  rintro e w12 ⟨A12, rfl, o12, hb12⟩
  have s16 : w11.heap.size + 1 ≤ w12.heap.size := by have := hb12.size; (try simp at this); omega
  have s16H := Lib.hid s16
  have kw_16 : Below w.heap.size w w12 := bl_tr bk_ hb12
  have krV4_16 : Below w9.heap.size w9 w12 := bl_tr bk_ hb12
  have kc10_16 : Below w10.heap.size w10 w12 := bl_tr bk_ hb12
  have kc11_16 : Below w11.heap.size w11 w12 := bl_tr bk_ hb12
  have lb0_16 : w.heap.size < w12.heap.size := Nat.lt_of_lt_of_le (by go_simp) hb12.size
  have yb0_0_16 : w12.cell? ⟨w.heap.size, 0, none⟩ = some (.slice G n cg) := (hb12.cell (p := ⟨w.heap.size, 0, none⟩) (by go_simp)).trans (by go_simp)
  have yb0_1_16 : w12.cell? ⟨w.heap.size, 1, none⟩ = some (.slice T m ct) := (hb12.cell (p := ⟨w.heap.size, 1, none⟩) (by go_simp)).trans (by go_simp)
  have yb0_2_16 : w12.cell? ⟨w.heap.size, 2, none⟩ = some (.slice A q ca) := (hb12.cell (p := ⟨w.heap.size, 2, none⟩) (by go_simp)).trans (by go_simp)
  have yb0_3_16 : w12.cell? ⟨w.heap.size, 3, none⟩ = some (.int .i64 t) := (hb12.cell (p := ⟨w.heap.size, 3, none⟩) (by go_simp)).trans (by go_simp)
  have lb1_16 : w.heap.size + 1 < w12.heap.size := Nat.lt_of_lt_of_le (by go_simp) hb12.size
  have yb1_0_16 : w12.cell? ⟨w.heap.size + 1, 0, none⟩ = some (.slice D nd cd) := (hb12.cell (p := ⟨w.heap.size + 1, 0, none⟩) (by go_simp)).trans (by go_simp)
  have lb2_16 : w.heap.size + 2 < w12.heap.size := Nat.lt_of_lt_of_le (by go_simp) hb12.size
  have yb2_0_16 : w12.cell? ⟨w.heap.size + 2, 0, none⟩ = some (.slice C nb cb) := (hb12.cell (p := ⟨w.heap.size + 2, 0, none⟩) (by go_simp)).trans (by go_simp)
  have lb3_16 : bF4 < w12.heap.size := Nat.lt_of_lt_of_le (by go_simp) hb12.size
  have yb3_0_16 : w12.cell? ⟨bF4, 0, none⟩ = some (.slice VA8 (dmgR gs ts xs t rs ys).1.p.length ka8) := (hb12.cell (p := ⟨bF4, 0, none⟩) (by go_simp)).trans (by go_simp)
  have yb3_1_16 : w12.cell? ⟨bF4, 1, none⟩ = some (.slice VB8 (dmgR gs ts xs t rs ys).1.q.length kb8) := (hb12.cell (p := ⟨bF4, 1, none⟩) (by go_simp)).trans (by go_simp)
  have yb3_2_16 : w12.cell? ⟨bF4, 2, none⟩ = some (.slice VC8 (dmgR gs ts xs t rs ys).1.r.length kd8) := (hb12.cell (p := ⟨bF4, 2, none⟩) (by go_simp)).trans (by go_simp)
  have lb4_16 : w10.heap.size < w12.heap.size := Nat.lt_of_lt_of_le (by go_simp) hb12.size
  have yb4_0_16 : w12.cell? ⟨w10.heap.size, 0, none⟩ = some (.slice G10 n n) := (hb12.cell (p := ⟨w10.heap.size, 0, none⟩) (by go_simp)).trans (by go_simp)
  have yb4_1_16 : w12.cell? ⟨w10.heap.size, 1, none⟩ = some (.slice T10 m m) := (hb12.cell (p := ⟨w10.heap.size, 1, none⟩) (by go_simp)).trans (by go_simp)
  have yb4_2_16 : w12.cell? ⟨w10.heap.size, 2, none⟩ = some (.slice A10 q q) := (hb12.cell (p := ⟨w10.heap.size, 2, none⟩) (by go_simp)).trans (by go_simp)
  have yb4_3_16 : w12.cell? ⟨w10.heap.size, 3, none⟩ = some (.int .i64 t) := (hb12.cell (p := ⟨w10.heap.size, 3, none⟩) (by go_simp)).trans (by go_simp)
  have lb5_16 : w11.heap.size < w12.heap.size := Nat.lt_of_lt_of_le (by go_simp) hb12.size
  have yb5_0_16 : w12.cell? ⟨w11.heap.size, 0, none⟩ = some (.slice A11 nd nd) := (hb12.cell (p := ⟨w11.heap.size, 0, none⟩) (by go_simp)).trans (by go_simp)
  clear yb4_3_15 yb4_2_15 yb4_1_15 yb4_0_15 lb4_15 yb3_2_15 yb3_1_15 yb3_0_15 lb3_15 yb2_0_15 lb2_15 yb1_0_15 lb1_15 yb0_3_15 yb0_2_15 yb0_1_15 yb0_0_15 lb0_15 kc11 kc10_15 krV4_15 kw_15 s16
  clear hb12
  have kc12 : Below w12.heap.size w12 w12 := bl_refl _
  have o12H := Lib.hid o12
  clear o12
  go_wp2_with fail
  refine (DamageOf_any _ _ _ _ _ _ _ _ _ _ _ _ _ _ _ gs ts xs rs ys _ _ ⟨o10H.out.rd.below RGl.stable bk_, p10H.out.rdTi.below RTi.stable bk_, z10H.out.rd.below RPl.stable bk_, by omega, by omega, by omega, hgk.out, htk.out⟩ ⟨o10H.out.rd.below RGl.stable bk_, p10H.out.rdTi.below RTi.stable bk_, o11H.out.rd.below RPl.stable bk_, by omega, by omega, by omega, hgk.out, htk.out⟩ ⟨o10H.out.rd.below RGl.stable bk_, p10H.out.rdTi.below RTi.stable bk_, o12H.out.rd.below RPl.stable bk_, by omega, by omega, by omega, hgk.out, htk.out⟩).mono ?_
  rintro e w13 ⟨VA13, VB13, VC13, ka13, kb13, kd13, rfl, v13, hb13⟩
  have s17 : w12.heap.size + 1 ≤ w13.heap.size := by have := hb13.size; (try simp at this); omega
  have s17H := Lib.hid s17
  have kw_17 : Below w.heap.size w w13 := bl_tr bk_ hb13
  have krV4_17 : Below w9.heap.size w9 w13 := bl_tr bk_ hb13
  have kc10_17 : Below w10.heap.size w10 w13 := bl_tr bk_ hb13
  have kc11_17 : Below w11.heap.size w11 w13 := bl_tr bk_ hb13
  have kc12_17 : Below w12.heap.size w12 w13 := bl_tr bk_ hb13
  have lb0_17 : w.heap.size < w13.heap.size := Nat.lt_of_lt_of_le (by go_simp) hb13.size
  have yb0_0_17 : w13.cell? ⟨w.heap.size, 0, none⟩ = some (.slice G n cg) := (hb13.cell (p := ⟨w.heap.size, 0, none⟩) (by go_simp)).trans (by go_simp)
  have yb0_1_17 : w13.cell? ⟨w.heap.size, 1, none⟩ = some (.slice T m ct) := (hb13.cell (p := ⟨w.heap.size, 1, none⟩) (by go_simp)).trans (by go_simp)
  have yb0_2_17 : w13.cell? ⟨w.heap.size, 2, none⟩ = some (.slice A q ca) := (hb13.cell (p := ⟨w.heap.size, 2, none⟩) (by go_simp)).trans (by go_simp)
  have yb0_3_17 : w13.cell? ⟨w.heap.size, 3, none⟩ = some (.int .i64 t) := (hb13.cell (p := ⟨w.heap.size, 3, none⟩) (by go_simp)).trans (by go_simp)
  have lb1_17 : w.heap.size + 1 < w13.heap.size := Nat.lt_of_lt_of_le (by go_simp) hb13.size
  have yb1_0_17 : w13.cell? ⟨w.heap.size + 1, 0, none⟩ = some (.slice D nd cd) := (hb13.cell (p := ⟨w.heap.size + 1, 0, none⟩) (by go_simp)).trans (by go_simp)
  have lb2_17 : w.heap.size + 2 < w13.heap.size := Nat.lt_of_lt_of_le (by go_simp) hb13.size
  have yb2_0_17 : w13.cell? ⟨w.heap.size + 2, 0, none⟩ = some (.slice C nb cb) := (hb13.cell (p := ⟨w.heap.size + 2, 0, none⟩) (by go_simp)).trans (by go_simp)
  have lb3_17 : bF4 < w13.heap.size := Nat.lt_of_lt_of_le (by go_simp) hb13.size
  have yb3_0_17 : w13.cell? ⟨bF4, 0, none⟩ = some (.slice VA8 (dmgR gs ts xs t rs ys).1.p.length ka8) := (hb13.cell (p := ⟨bF4, 0, none⟩) (by go_simp)).trans (by go_simp)
  have yb3_1_17 : w13.cell? ⟨bF4, 1, none⟩ = some (.slice VB8 (dmgR gs ts xs t rs ys).1.q.length kb8) := (hb13.cell (p := ⟨bF4, 1, none⟩) (by go_simp)).trans (by go_simp)
  have yb3_2_17 : w13.cell? ⟨bF4, 2, none⟩ = some (.slice VC8 (dmgR gs ts xs t rs ys).1.r.length kd8) := (hb13.cell (p := ⟨bF4, 2, none⟩) (by go_simp)).trans (by go_simp)
  have lb4_17 : w10.heap.size < w13.heap.size := Nat.lt_of_lt_of_le (by go_simp) hb13.size
  have yb4_0_17 : w13.cell? ⟨w10.heap.size, 0, none⟩ = some (.slice G10 n n) := (hb13.cell (p := ⟨w10.heap.size, 0, none⟩) (by go_simp)).trans (by go_simp)
  have yb4_1_17 : w13.cell? ⟨w10.heap.size, 1, none⟩ = some (.slice T10 m m) := (hb13.cell (p := ⟨w10.heap.size, 1, none⟩) (by go_simp)).trans (by go_simp)
  have yb4_2_17 : w13.cell? ⟨w10.heap.size, 2, none⟩ = some (.slice A10 q q) := (hb13.cell (p := ⟨w10.heap.size, 2, none⟩) (by go_simp)).trans (by go_simp)
  have yb4_3_17 : w13.cell? ⟨w10.heap.size, 3, none⟩ = some (.int .i64 t) := (hb13.cell (p := ⟨w10.heap.size, 3, none⟩) (by go_simp)).trans (by go_simp)
  have lb5_17 : w11.heap.size < w13.heap.size := Nat.lt_of_lt_of_le (by go_simp) hb13.size
  have yb5_0_17 : w13.cell? ⟨w11.heap.size, 0, none⟩ = some (.slice A11 nd nd) := (hb13.cell (p := ⟨w11.heap.size, 0, none⟩) (by go_simp)).trans (by go_simp)
  have lb6_17 : w12.heap.size < w13.heap.size := Nat.lt_of_lt_of_le (by go_simp) hb13.size
  have yb6_0_17 : w13.cell? ⟨w12.heap.size, 0, none⟩ = some (.slice A12 nb nb) := (hb13.cell (p := ⟨w12.heap.size, 0, none⟩) (by go_simp)).trans (by go_simp)
  clear yb5_0_16 lb5_16 yb4_3_16 yb4_2_16 yb4_1_16 yb4_0_16 lb4_16 yb3_2_16 yb3_1_16 yb3_0_16 lb3_16 yb2_0_16 lb2_16 yb1_0_16 lb1_16 yb0_3_16 yb0_2_16 yb0_1_16 yb0_0_16 lb0_16 kc12 kc11_16 kc10_16 krV4_16 kw_16 s17
  clear hb13
  have kr13 : Below w13.heap.size w13 w13 := bl_refl _
  have v13H := Lib.hid v13
  clear v13
  go_wp2_with fail
  refine (eqDamage_same _ _ _ _ _ _ _ _ _ _ _ _ (dmgR gs ts xs t rs ys).1 _ (Own3.rd (Own3.below v13H.out bk_)) (Own3.rd (Own3.below vV8_0H.out bk_)) hRl.out).mono ?_
  rintro e w14 ⟨rfl, hb14⟩
  have s18 : w13.heap.size + 1 ≤ w14.heap.size := by have := hb14.size; (try simp at this); omega
  have s18H := Lib.hid s18
  have kw_18 : Below w.heap.size w w14 := bl_tr bk_ hb14
  have krV4_18 : Below w9.heap.size w9 w14 := bl_tr bk_ hb14
  have kc10_18 : Below w10.heap.size w10 w14 := bl_tr bk_ hb14
  have kc11_18 : Below w11.heap.size w11 w14 := bl_tr bk_ hb14
  have kc12_18 : Below w12.heap.size w12 w14 := bl_tr bk_ hb14
  have kr13_18 : Below w13.heap.size w13 w14 := bl_tr bk_ hb14
  have lb0_18 : w.heap.size < w14.heap.size := Nat.lt_of_lt_of_le (by go_simp) hb14.size
  have yb0_0_18 : w14.cell? ⟨w.heap.size, 0, none⟩ = some (.slice G n cg) := (hb14.cell (p := ⟨w.heap.size, 0, none⟩) (by go_simp)).trans (by go_simp)
  have yb0_1_18 : w14.cell? ⟨w.heap.size, 1, none⟩ = some (.slice T m ct) := (hb14.cell (p := ⟨w.heap.size, 1, none⟩) (by go_simp)).trans (by go_simp)
  have yb0_2_18 : w14.cell? ⟨w.heap.size, 2, none⟩ = some (.slice A q ca) := (hb14.cell (p := ⟨w.heap.size, 2, none⟩) (by go_simp)).trans (by go_simp)
  have yb0_3_18 : w14.cell? ⟨w.heap.size, 3, none⟩ = some (.int .i64 t) := (hb14.cell (p := ⟨w.heap.size, 3, none⟩) (by go_simp)).trans (by go_simp)
  have lb1_18 : w.heap.size + 1 < w14.heap.size := Nat.lt_of_lt_of_le (by go_simp) hb14.size
  have yb1_0_18 : w14.cell? ⟨w.heap.size + 1, 0, none⟩ = some (.slice D nd cd) := (hb14.cell (p := ⟨w.heap.size + 1, 0, none⟩) (by go_simp)).trans (by go_simp)
  have lb2_18 : w.heap.size + 2 < w14.heap.size := Nat.lt_of_lt_of_le (by go_simp) hb14.size
  have yb2_0_18 : w14.cell? ⟨w.heap.size + 2, 0, none⟩ = some (.slice C nb cb) := (hb14.cell (p := ⟨w.heap.size + 2, 0, none⟩) (by go_simp)).trans (by go_simp)
  have lb3_18 : bF4 < w14.heap.size := Nat.lt_of_lt_of_le (by go_simp) hb14.size
  have yb3_0_18 : w14.cell? ⟨bF4, 0, none⟩ = some (.slice VA8 (dmgR gs ts xs t rs ys).1.p.length ka8) := (hb14.cell (p := ⟨bF4, 0, none⟩) (by go_simp)).trans (by go_simp)
  have yb3_1_18 : w14.cell? ⟨bF4, 1, none⟩ = some (.slice VB8 (dmgR gs ts xs t rs ys).1.q.length kb8) := (hb14.cell (p := ⟨bF4, 1, none⟩) (by go_simp)).trans (by go_simp)
  have yb3_2_18 : w14.cell? ⟨bF4, 2, none⟩ = some (.slice VC8 (dmgR gs ts xs t rs ys).1.r.length kd8) := (hb14.cell (p := ⟨bF4, 2, none⟩) (by go_simp)).trans (by go_simp)
  have lb4_18 : w10.heap.size < w14.heap.size := Nat.lt_of_lt_of_le (by go_simp) hb14.size
  have yb4_0_18 : w14.cell? ⟨w10.heap.size, 0, none⟩ = some (.slice G10 n n) := (hb14.cell (p := ⟨w10.heap.size, 0, none⟩) (by go_simp)).trans (by go_simp)
  have yb4_1_18 : w14.cell? ⟨w10.heap.size, 1, none⟩ = some (.slice T10 m m) := (hb14.cell (p := ⟨w10.heap.size, 1, none⟩) (by go_simp)).trans (by go_simp)
  have yb4_2_18 : w14.cell? ⟨w10.heap.size, 2, none⟩ = some (.slice A10 q q) := (hb14.cell (p := ⟨w10.heap.size, 2, none⟩) (by go_simp)).trans (by go_simp)
  have yb4_3_18 : w14.cell? ⟨w10.heap.size, 3, none⟩ = some (.int .i64 t) := (hb14.cell (p := ⟨w10.heap.size, 3, none⟩) (by go_simp)).trans (by go_simp)
  have lb5_18 : w11.heap.size < w14.heap.size := Nat.lt_of_lt_of_le (by go_simp) hb14.size
  have yb5_0_18 : w14.cell? ⟨w11.heap.size, 0, none⟩ = some (.slice A11 nd nd) := (hb14.cell (p := ⟨w11.heap.size, 0, none⟩) (by go_simp)).trans (by go_simp)
  have lb6_18 : w12.heap.size < w14.heap.size := Nat.lt_of_lt_of_le (by go_simp) hb14.size
  have yb6_0_18 : w14.cell? ⟨w12.heap.size, 0, none⟩ = some (.slice A12 nb nb) := (hb14.cell (p := ⟨w12.heap.size, 0, none⟩) (by go_simp)).trans (by go_simp)
  have lb7_18 : w13.heap.size < w14.heap.size := Nat.lt_of_lt_of_le (by go_simp) hb14.size
  have yb7_0_18 : w14.cell? ⟨w13.heap.size, 0, none⟩ = some (.slice VA13 (dmgR gs ts xs t rs ys).1.p.length ka13) := (hb14.cell (p := ⟨w13.heap.size, 0, none⟩) (by go_simp)).trans (by go_simp)
  have yb7_1_18 : w14.cell? ⟨w13.heap.size, 1, none⟩ = some (.slice VB13 (dmgR gs ts xs t rs ys).1.q.length kb13) := (hb14.cell (p := ⟨w13.heap.size, 1, none⟩) (by go_simp)).trans (by go_simp)
  have yb7_2_18 : w14.cell? ⟨w13.heap.size, 2, none⟩ = some (.slice VC13 (dmgR gs ts xs t rs ys).1.r.length kd13) := (hb14.cell (p := ⟨w13.heap.size, 2, none⟩) (by go_simp)).trans (by go_simp)
  clear yb6_0_17 lb6_17 yb5_0_17 lb5_17 yb4_3_17 yb4_2_17 yb4_1_17 yb4_0_17 lb4_17 yb3_2_17 yb3_1_17 yb3_0_17 lb3_17 yb2_0_17 lb2_17 yb1_0_17 lb1_17 yb0_3_17 yb0_2_17 yb0_1_17 yb0_0_17 lb0_17 kr13 kc12_17 kc11_17 kc10_17 krV4_17 kw_17 s18
  clear hb14
  go_wp2_with fail
  refine wp_region_ord [(0, .q), (1, .q), (2, .g), (3, .g), (4, .q)] (by kernel_rfl) (by kernel_rfl) ?_
  simp only [pick, List.filterMap_cons, List.filterMap_nil, List.getElem?_toArray, List.getElem?_cons_zero, List.getElem?_cons_succ, Option.map_some]
  repeat (first | ((with_reducible refine wpD_p (fun K hK => ?_)); go_simp; refine hK _ ?_; clear hK K) | ((with_reducible refine wpD_q (fun K hK => ?_)); go_simp; (first | refine hK _ ?_ | (go_bits; refine hK _ ?_) | (go_bits; go_simp; refine hK _ ?_)); clear hK K))
  with_reducible refine wpD_g (fun K hK => ?_)
  go_simp
  refine (toSystemM_any _ _ _ _ _ _ _ _ _ gs ts xs _ _ (hG.below RGl.stable bk_) (hT.below RTi.stable bk_) (hA.below RPl.stable bk_) (by omega) (by omega) htsH.out (by omega)).mono ?_
  rintro e w15 ⟨G15, T15, A15, md15, rfl, o15, p15, z15, ms15, hb15⟩
  refine ⟨_, rfl, hb15, hK _ _ ?_⟩
  clear hK K
  have s19 : w14.heap.size ≤ w15.heap.size := by have := hb15.size; (try simp at this); omega
  have s19H := Lib.hid s19
  have kw_19 : Below w.heap.size w w15 := bl_tr bk_ hb15
  have krV4_19 : Below w9.heap.size w9 w15 := bl_tr bk_ hb15
  have kc10_19 : Below w10.heap.size w10 w15 := bl_tr bk_ hb15
  have kc11_19 : Below w11.heap.size w11 w15 := bl_tr bk_ hb15
  have kc12_19 : Below w12.heap.size w12 w15 := bl_tr bk_ hb15
  have kr13_19 : Below w13.heap.size w13 w15 := bl_tr bk_ hb15
  have lb0_19 : w.heap.size < w15.heap.size := Nat.lt_of_lt_of_le (by go_simp) hb15.size
  have yb0_0_19 : w15.cell? ⟨w.heap.size, 0, none⟩ = some (.slice G n cg) := (hb15.cell (p := ⟨w.heap.size, 0, none⟩) (by go_simp)).trans (by go_simp)
  have yb0_1_19 : w15.cell? ⟨w.heap.size, 1, none⟩ = some (.slice T m ct) := (hb15.cell (p := ⟨w.heap.size, 1, none⟩) (by go_simp)).trans (by go_simp)
  have yb0_2_19 : w15.cell? ⟨w.heap.size, 2, none⟩ = some (.slice A q ca) := (hb15.cell (p := ⟨w.heap.size, 2, none⟩) (by go_simp)).trans (by go_simp)
  have yb0_3_19 : w15.cell? ⟨w.heap.size, 3, none⟩ = some (.int .i64 t) := (hb15.cell (p := ⟨w.heap.size, 3, none⟩) (by go_simp)).trans (by go_simp)
  have lb1_19 : w.heap.size + 1 < w15.heap.size := Nat.lt_of_lt_of_le (by go_simp) hb15.size
  have yb1_0_19 : w15.cell? ⟨w.heap.size + 1, 0, none⟩ = some (.slice D nd cd) := (hb15.cell (p := ⟨w.heap.size + 1, 0, none⟩) (by go_simp)).trans (by go_simp)
  have lb2_19 : w.heap.size + 2 < w15.heap.size := Nat.lt_of_lt_of_le (by go_simp) hb15.size
  have yb2_0_19 : w15.cell? ⟨w.heap.size + 2, 0, none⟩ = some (.slice C nb cb) := (hb15.cell (p := ⟨w.heap.size + 2, 0, none⟩) (by go_simp)).trans (by go_simp)
  have lb3_19 : bF4 < w15.heap.size := Nat.lt_of_lt_of_le (by go_simp) hb15.size
  have yb3_0_19 : w15.cell? ⟨bF4, 0, none⟩ = some (.slice VA8 (dmgR gs ts xs t rs ys).1.p.length ka8) := (hb15.cell (p := ⟨bF4, 0, none⟩) (by go_simp)).trans (by go_simp)
  have yb3_1_19 : w15.cell? ⟨bF4, 1, none⟩ = some (.slice VB8 (dmgR gs ts xs t rs ys).1.q.length kb8) := (hb15.cell (p := ⟨bF4, 1, none⟩) (by go_simp)).trans (by go_simp)
  have yb3_2_19 : w15.cell? ⟨bF4, 2, none⟩ = some (.slice VC8 (dmgR gs ts xs t rs ys).1.r.length kd8) := (hb15.cell (p := ⟨bF4, 2, none⟩) (by go_simp)).trans (by go_simp)
  have lb4_19 : w10.heap.size < w15.heap.size := Nat.lt_of_lt_of_le (by go_simp) hb15.size
  have yb4_0_19 : w15.cell? ⟨w10.heap.size, 0, none⟩ = some (.slice G10 n n) := (hb15.cell (p := ⟨w10.heap.size, 0, none⟩) (by go_simp)).trans (by go_simp)
  have yb4_1_19 : w15.cell? ⟨w10.heap.size, 1, none⟩ = some (.slice T10 m m) := (hb15.cell (p := ⟨w10.heap.size, 1, none⟩) (by go_simp)).trans (by go_simp)
  have yb4_2_19 : w15.cell? ⟨w10.heap.size, 2, none⟩ = some (.slice A10 q q) := (hb15.cell (p := ⟨w10.heap.size, 2, none⟩) (by go_simp)).trans (by go_simp)
  have yb4_3_19 : w15.cell? ⟨w10.heap.size, 3, none⟩ = some (.int .i64 t) := (hb15.cell (p := ⟨w10.heap.size, 3, none⟩) (by go_simp)).trans (by go_simp)
  have lb5_19 : w11.heap.size < w15.heap.size := Nat.lt_of_lt_of_le (by go_simp) hb15.size
  have yb5_0_19 : w15.cell? ⟨w11.heap.size, 0, none⟩ = some (.slice A11 nd nd) := (hb15.cell (p := ⟨w11.heap.size, 0, none⟩) (by go_simp)).trans (by go_simp)
  have lb6_19 : w12.heap.size < w15.heap.size := Nat.lt_of_lt_of_le (by go_simp) hb15.size
  have yb6_0_19 : w15.cell? ⟨w12.heap.size, 0, none⟩ = some (.slice A12 nb nb) := (hb15.cell (p := ⟨w12.heap.size, 0, none⟩) (by go_simp)).trans (by go_simp)
  have lb7_19 : w13.heap.size < w15.heap.size := Nat.lt_of_lt_of_le (by go_simp) hb15.size
  have yb7_0_19 : w15.cell? ⟨w13.heap.size, 0, none⟩ = some (.slice VA13 (dmgR gs ts xs t rs ys).1.p.length ka13) := (hb15.cell (p := ⟨w13.heap.size, 0, none⟩) (by go_simp)).trans (by go_simp)
  have yb7_1_19 : w15.cell? ⟨w13.heap.size, 1, none⟩ = some (.slice VB13 (dmgR gs ts xs t rs ys).1.q.length kb13) := (hb15.cell (p := ⟨w13.heap.size, 1, none⟩) (by go_simp)).trans (by go_simp)
  have yb7_2_19 : w15.cell? ⟨w13.heap.size, 2, none⟩ = some (.slice VC13 (dmgR gs ts xs t rs ys).1.r.length kd13) := (hb15.cell (p := ⟨w13.heap.size, 2, none⟩) (by go_simp)).trans (by go_simp)
  clear yb7_2_18 yb7_1_18 yb7_0_18 lb7_18 yb6_0_18 lb6_18 yb5_0_18 lb5_18 yb4_3_18 yb4_2_18 yb4_1_18 yb4_0_18 lb4_18 yb3_2_18 yb3_1_18 yb3_0_18 lb3_18 yb2_0_18 lb2_18 yb1_0_18 lb1_18 yb0_3_18 yb0_2_18 yb0_1_18 yb0_0_18 lb0_18 kr13_18 kc12_18 kc11_18 kc10_18 krV4_18 kw_18 s19
  clear hb15
  have kc15 : Below w15.heap.size w15 w15 := bl_refl _
  have o15H := Lib.hid o15
  clear o15
  have p15H := Lib.hid p15
  clear p15
  have z15H := Lib.hid z15
  clear z15
  have ms15H := Lib.hid ms15
  clear ms15
  with_reducible refine wpD_g (fun K hK => ?_)
  go_simp
  refine (eqSystem_same _ _ _ _ _ _ _ _ _ _ _ _ _ _ _ gs ts xs _ _ (o10H.out.rd.below RGl.stable bk_) (o15H.out.rd.below RGl.stable bk_) (p10H.out.rdTi.below RTi.stable bk_) (p15H.out.rdTi.below RTi.stable bk_) (z10H.out.rd.below RPl.stable bk_) (z15H.out.rd.below RPl.stable bk_) (by omega) (by omega) htsH.out (by omega)).mono ?_
  rintro e w16 ⟨rfl, hb16⟩
  refine ⟨_, rfl, hb16, hK _ _ ?_⟩
  clear hK K
  have s20 : w15.heap.size ≤ w16.heap.size := by have := hb16.size; (try simp at this); omega
  have s20H := Lib.hid s20
  have kw_20 : Below w.heap.size w w16 := bl_tr bk_ hb16
  have krV4_20 : Below w9.heap.size w9 w16 := bl_tr bk_ hb16
  have kc10_20 : Below w10.heap.size w10 w16 := bl_tr bk_ hb16
  have kc11_20 : Below w11.heap.size w11 w16 := bl_tr bk_ hb16
  have kc12_20 : Below w12.heap.size w12 w16 := bl_tr bk_ hb16
  have kr13_20 : Below w13.heap.size w13 w16 := bl_tr bk_ hb16
  have kc15_20 : Below w15.heap.size w15 w16 := bl_tr bk_ hb16
  have lb0_20 : w.heap.size < w16.heap.size := Nat.lt_of_lt_of_le (by go_simp) hb16.size
  have yb0_0_20 : w16.cell? ⟨w.heap.size, 0, none⟩ = some (.slice G n cg) := (hb16.cell (p := ⟨w.heap.size, 0, none⟩) (by go_simp)).trans (by go_simp)
  have yb0_1_20 : w16.cell? ⟨w.heap.size, 1, none⟩ = some (.slice T m ct) := (hb16.cell (p := ⟨w.heap.size, 1, none⟩) (by go_simp)).trans (by go_simp)
  have yb0_2_20 : w16.cell? ⟨w.heap.size, 2, none⟩ = some (.slice A q ca) := (hb16.cell (p := ⟨w.heap.size, 2, none⟩) (by go_simp)).trans (by go_simp)
  have yb0_3_20 : w16.cell? ⟨w.heap.size, 3, none⟩ = some (.int .i64 t) := (hb16.cell (p := ⟨w.heap.size, 3, none⟩) (by go_simp)).trans (by go_simp)
  have lb1_20 : w.heap.size + 1 < w16.heap.size := Nat.lt_of_lt_of_le (by go_simp) hb16.size
  have yb1_0_20 : w16.cell? ⟨w.heap.size + 1, 0, none⟩ = some (.slice D nd cd) := (hb16.cell (p := ⟨w.heap.size + 1, 0, none⟩) (by go_simp)).trans (by go_simp)
  have lb2_20 : w.heap.size + 2 < w16.heap.size := Nat.lt_of_lt_of_le (by go_simp) hb16.size
  have yb2_0_20 : w16.cell? ⟨w.heap.size + 2, 0, none⟩ = some (.slice C nb cb) := (hb16.cell (p := ⟨w.heap.size + 2, 0, none⟩) (by go_simp)).trans (by go_simp)
  have lb3_20 : bF4 < w16.heap.size := Nat.lt_of_lt_of_le (by go_simp) hb16.size
  have yb3_0_20 : w16.cell? ⟨bF4, 0, none⟩ = some (.slice VA8 (dmgR gs ts xs t rs ys).1.p.length ka8) := (hb16.cell (p := ⟨bF4, 0, none⟩) (by go_simp)).trans (by go_simp)
  have yb3_1_20 : w16.cell? ⟨bF4, 1, none⟩ = some (.slice VB8 (dmgR gs ts xs t rs ys).1.q.length kb8) := (hb16.cell (p := ⟨bF4, 1, none⟩) (by go_simp)).trans (by go_simp)
  have yb3_2_20 : w16.cell? ⟨bF4, 2, none⟩ = some (.slice VC8 (dmgR gs ts xs t rs ys).1.r.length kd8) := (hb16.cell (p := ⟨bF4, 2, none⟩) (by go_simp)).trans (by go_simp)
  have lb4_20 : w10.heap.size < w16.heap.size := Nat.lt_of_lt_of_le (by go_simp) hb16.size
  have yb4_0_20 : w16.cell? ⟨w10.heap.size, 0, none⟩ = some (.slice G10 n n) := (hb16.cell (p := ⟨w10.heap.size, 0, none⟩) (by go_simp)).trans (by go_simp)
  have yb4_1_20 : w16.cell? ⟨w10.heap.size, 1, none⟩ = some (.slice T10 m m) := (hb16.cell (p := ⟨w10.heap.size, 1, none⟩) (by go_simp)).trans (by go_simp)
  have yb4_2_20 : w16.cell? ⟨w10.heap.size, 2, none⟩ = some (.slice A10 q q) := (hb16.cell (p := ⟨w10.heap.size, 2, none⟩) (by go_simp)).trans (by go_simp)
  have yb4_3_20 : w16.cell? ⟨w10.heap.size, 3, none⟩ = some (.int .i64 t) := (hb16.cell (p := ⟨w10.heap.size, 3, none⟩) (by go_simp)).trans (by go_simp)
  have lb5_20 : w11.heap.size < w16.heap.size := Nat.lt_of_lt_of_le (by go_simp) hb16.size
  have yb5_0_20 : w16.cell? ⟨w11.heap.size, 0, none⟩ = some (.slice A11 nd nd) := (hb16.cell (p := ⟨w11.heap.size, 0, none⟩) (by go_simp)).trans (by go_simp)
  have lb6_20 : w12.heap.size < w16.heap.size := Nat.lt_of_lt_of_le (by go_simp) hb16.size
  have yb6_0_20 : w16.cell? ⟨w12.heap.size, 0, none⟩ = some (.slice A12 nb nb) := (hb16.cell (p := ⟨w12.heap.size, 0, none⟩) (by go_simp)).trans (by go_simp)
  have lb7_20 : w13.heap.size < w16.heap.size := Nat.lt_of_lt_of_le (by go_simp) hb16.size
  have yb7_0_20 : w16.cell? ⟨w13.heap.size, 0, none⟩ = some (.slice VA13 (dmgR gs ts xs t rs ys).1.p.length ka13) := (hb16.cell (p := ⟨w13.heap.size, 0, none⟩) (by go_simp)).trans (by go_simp)
  have yb7_1_20 : w16.cell? ⟨w13.heap.size, 1, none⟩ = some (.slice VB13 (dmgR gs ts xs t rs ys).1.q.length kb13) := (hb16.cell (p := ⟨w13.heap.size, 1, none⟩) (by go_simp)).trans (by go_simp)
  have yb7_2_20 : w16.cell? ⟨w13.heap.size, 2, none⟩ = some (.slice VC13 (dmgR gs ts xs t rs ys).1.r.length kd13) := (hb16.cell (p := ⟨w13.heap.size, 2, none⟩) (by go_simp)).trans (by go_simp)
  clear yb7_2_19 yb7_1_19 yb7_0_19 lb7_19 yb6_0_19 lb6_19 yb5_0_19 lb5_19 yb4_3_19 yb4_2_19 yb4_1_19 yb4_0_19 lb4_19 yb3_2_19 yb3_1_19 yb3_0_19 lb3_19 yb2_0_19 lb2_19 yb1_0_19 lb1_19 yb0_3_19 yb0_2_19 yb0_1_19 yb0_0_19 lb0_19 kc15 kr13_19 kc12_19 kc11_19 kc10_19 krV4_19 kw_19 s20
  clear hb16
  repeat (first | ((with_reducible refine wpD_p (fun K hK => ?_)); go_simp; refine hK _ ?_; clear hK K) | ((with_reducible refine wpD_q (fun K hK => ?_)); go_simp; (first | refine hK _ ?_ | (go_bits; refine hK _ ?_) | (go_bits; go_simp; refine hK _ ?_)); clear hK K))
  with_reducible refine wpD_nil ?_
  go_wp2_with fail
  refine wp_region_ord [(0, .q), (1, .q), (2, .g), (3, .g), (4, .q)] (by kernel_rfl) (by kernel_rfl) ?_
  simp only [pick, List.filterMap_cons, List.filterMap_nil, List.getElem?_toArray, List.getElem?_cons_zero, List.getElem?_cons_succ, Option.map_some]
  repeat (first | ((with_reducible refine wpD_p (fun K hK => ?_)); go_simp; refine hK _ ?_; clear hK K) | ((with_reducible refine wpD_q (fun K hK => ?_)); go_simp; (first | refine hK _ ?_ | (go_bits; refine hK _ ?_) | (go_bits; go_simp; refine hK _ ?_)); clear hK K))
  with_reducible refine wpD_g (fun K hK => ?_)
  go_simp
  refine (toAssembly_any _ _ _ rs _ (hD.below RPl.stable bk_) (by omega)).mono ?_
  rintro e w17 ⟨A17, rfl, o17, hb17⟩
  refine ⟨_, rfl, hb17, hK _ _ ?_⟩
  clear hK K
  have s21 : w16.heap.size ≤ w17.heap.size := by have := hb17.size; (try simp at this); omega
  have s21H := Lib.hid s21
  have kw_21 : Below w.heap.size w w17 := bl_tr bk_ hb17
  have krV4_21 : Below w9.heap.size w9 w17 := bl_tr bk_ hb17
  have kc10_21 : Below w10.heap.size w10 w17 := bl_tr bk_ hb17
  have kc11_21 : Below w11.heap.size w11 w17 := bl_tr bk_ hb17
  have kc12_21 : Below w12.heap.size w12 w17 := bl_tr bk_ hb17
  have kr13_21 : Below w13.heap.size w13 w17 := bl_tr bk_ hb17
  have kc15_21 : Below w15.heap.size w15 w17 := bl_tr bk_ hb17
  have lb0_21 : w.heap.size < w17.heap.size := Nat.lt_of_lt_of_le (by go_simp) hb17.size
  have yb0_0_21 : w17.cell? ⟨w.heap.size, 0, none⟩ = some (.slice G n cg) := (hb17.cell (p := ⟨w.heap.size, 0, none⟩) (by go_simp)).trans (by go_simp)
  have yb0_1_21 : w17.cell? ⟨w.heap.size, 1, none⟩ = some (.slice T m ct) := (hb17.cell (p := ⟨w.heap.size, 1, none⟩) (by go_simp)).trans (by go_simp)
  have yb0_2_21 : w17.cell? ⟨w.heap.size, 2, none⟩ = some (.slice A q ca) := (hb17.cell (p := ⟨w.heap.size, 2, none⟩) (by go_simp)).trans (by go_simp)
  have yb0_3_21 : w17.cell? ⟨w.heap.size, 3, none⟩ = some (.int .i64 t) := (hb17.cell (p := ⟨w.heap.size, 3, none⟩) (by go_simp)).trans (by go_simp)
  have lb1_21 : w.heap.size + 1 < w17.heap.size := Nat.lt_of_lt_of_le (by go_simp) hb17.size
  have yb1_0_21 : w17.cell? ⟨w.heap.size + 1, 0, none⟩ = some (.slice D nd cd) := (hb17.cell (p := ⟨w.heap.size + 1, 0, none⟩) (by go_simp)).trans (by go_simp)
  have lb2_21 : w.heap.size + 2 < w17.heap.size := Nat.lt_of_lt_of_le (by go_simp) hb17.size
  have yb2_0_21 : w17.cell? ⟨w.heap.size + 2, 0, none⟩ = some (.slice C nb cb) := (hb17.cell (p := ⟨w.heap.size + 2, 0, none⟩) (by go_simp)).trans (by go_simp)
  have lb3_21 : bF4 < w17.heap.size := Nat.lt_of_lt_of_le (by go_simp) hb17.size
  have yb3_0_21 : w17.cell? ⟨bF4, 0, none⟩ = some (.slice VA8 (dmgR gs ts xs t rs ys).1.p.length ka8) := (hb17.cell (p := ⟨bF4, 0, none⟩) (by go_simp)).trans (by go_simp)
  have yb3_1_21 : w17.cell? ⟨bF4, 1, none⟩ = some (.slice VB8 (dmgR gs ts xs t rs ys).1.q.length kb8) := (hb17.cell (p := ⟨bF4, 1, none⟩) (by go_simp)).trans (by go_simp)
  have yb3_2_21 : w17.cell? ⟨bF4, 2, none⟩ = some (.slice VC8 (dmgR gs ts xs t rs ys).1.r.length kd8) := (hb17.cell (p := ⟨bF4, 2, none⟩) (by go_simp)).trans (by go_simp)
  have lb4_21 : w10.heap.size < w17.heap.size := Nat.lt_of_lt_of_le (by go_simp) hb17.size
  have yb4_0_21 : w17.cell? ⟨w10.heap.size, 0, none⟩ = some (.slice G10 n n) := (hb17.cell (p := ⟨w10.heap.size, 0, none⟩) (by go_simp)).trans (by go_simp)
  have yb4_1_21 : w17.cell? ⟨w10.heap.size, 1, none⟩ = some (.slice T10 m m) := (hb17.cell (p := ⟨w10.heap.size, 1, none⟩) (by go_simp)).trans (by go_simp)
  have yb4_2_21 : w17.cell? ⟨w10.heap.size, 2, none⟩ = some (.slice A10 q q) := (hb17.cell (p := ⟨w10.heap.size, 2, none⟩) (by go_simp)).trans (by go_simp)
  have yb4_3_21 : w17.cell? ⟨w10.heap.size, 3, none⟩ = some (.int .i64 t) := (hb17.cell (p := ⟨w10.heap.size, 3, none⟩) (by go_simp)).trans (by go_simp)
  have lb5_21 : w11.heap.size < w17.heap.size := Nat.lt_of_lt_of_le (by go_simp) hb17.size
  have yb5_0_21 : w17.cell? ⟨w11.heap.size, 0, none⟩ = some (.slice A11 nd nd) := (hb17.cell (p := ⟨w11.heap.size, 0, none⟩) (by go_simp)).trans (by go_simp)
  have lb6_21 : w12.heap.size < w17.heap.size := Nat.lt_of_lt_of_le (by go_simp) hb17.size
  have yb6_0_21 : w17.cell? ⟨w12.heap.size, 0, none⟩ = some (.slice A12 nb nb) := (hb17.cell (p := ⟨w12.heap.size, 0, none⟩) (by go_simp)).trans (by go_simp)
  have lb7_21 : w13.heap.size < w17.heap.size := Nat.lt_of_lt_of_le (by go_simp) hb17.size
  have yb7_0_21 : w17.cell? ⟨w13.heap.size, 0, none⟩ = some (.slice VA13 (dmgR gs ts xs t rs ys).1.p.length ka13) := (hb17.cell (p := ⟨w13.heap.size, 0, none⟩) (by go_simp)).trans (by go_simp)
  have yb7_1_21 : w17.cell? ⟨w13.heap.size, 1, none⟩ = some (.slice VB13 (dmgR gs ts xs t rs ys).1.q.length kb13) := (hb17.cell (p := ⟨w13.heap.size, 1, none⟩) (by go_simp)).trans (by go_simp)
  have yb7_2_21 : w17.cell? ⟨w13.heap.size, 2, none⟩ = some (.slice VC13 (dmgR gs ts xs t rs ys).1.r.length kd13) := (hb17.cell (p := ⟨w13.heap.size, 2, none⟩) (by go_simp)).trans (by go_simp)
  clear yb7_2_20 yb7_1_20 yb7_0_20 lb7_20 yb6_0_20 lb6_20 yb5_0_20 lb5_20 yb4_3_20 yb4_2_20 yb4_1_20 yb4_0_20 lb4_20 yb3_2_20 yb3_1_20 yb3_0_20 lb3_20 yb2_0_20 lb2_20 yb1_0_20 lb1_20 yb0_3_20 yb0_2_20 yb0_1_20 yb0_0_20 lb0_20 kc15_20 kr13_20 kc12_20 kc11_20 kc10_20 krV4_20 kw_20 s21
  clear hb17
  have kc17 : Below w17.heap.size w17 w17 := bl_refl _
  have o17H := Lib.hid o17
  clear o17
  with_reducible refine wpD_g (fun K hK => ?_)
  go_simp
  refine (eqAssembly_same _ _ _ _ _ rs _ (o11H.out.rd.below RPl.stable bk_) (o17H.out.rd.below RPl.stable bk_) (by omega)).mono ?_
  rintro e w18 ⟨rfl, hb18⟩
  refine ⟨_, rfl, hb18, hK _ _ ?_⟩
  clear hK K
  have s22 : w17.heap.size ≤ w18.heap.size := by have := hb18.size; (try simp at this); omega
  have s22H := Lib.hid s22
  have kw_22 : Below w.heap.size w w18 := bl_tr bk_ hb18
  have krV4_22 : Below w9.heap.size w9 w18 := bl_tr bk_ hb18
  have kc10_22 : Below w10.heap.size w10 w18 := bl_tr bk_ hb18
  have kc11_22 : Below w11.heap.size w11 w18 := bl_tr bk_ hb18
  have kc12_22 : Below w12.heap.size w12 w18 := bl_tr bk_ hb18
  have kr13_22 : Below w13.heap.size w13 w18 := bl_tr bk_ hb18
  have kc15_22 : Below w15.heap.size w15 w18 := bl_tr bk_ hb18
  have kc17_22 : Below w17.heap.size w17 w18 := bl_tr bk_ hb18
  have lb0_22 : w.heap.size < w18.heap.size := Nat.lt_of_lt_of_le (by go_simp) hb18.size
  have yb0_0_22 : w18.cell? ⟨w.heap.size, 0, none⟩ = some (.slice G n cg) := (hb18.cell (p := ⟨w.heap.size, 0, none⟩) (by go_simp)).trans (by go_simp)
  have yb0_1_22 : w18.cell? ⟨w.heap.size, 1, none⟩ = some (.slice T m ct) := (hb18.cell (p := ⟨w.heap.size, 1, none⟩) (by go_simp)).trans (by go_simp)
  have yb0_2_22 : w18.cell? ⟨w.heap.size, 2, none⟩ = some (.slice A q ca) := (hb18.cell (p := ⟨w.heap.size, 2, none⟩) (by go_simp)).trans (by go_simp)
  have yb0_3_22 : w18.cell? ⟨w.heap.size, 3, none⟩ = some (.int .i64 t) := (hb18.cell (p := ⟨w.heap.size, 3, none⟩) (by go_simp)).trans (by go_simp)
  have lb1_22 : w.heap.size + 1 < w18.heap.size := Nat.lt_of_lt_of_le (by go_simp) hb18.size
  have yb1_0_22 : w18.cell? ⟨w.heap.size + 1, 0, none⟩ = some (.slice D nd cd) := (hb18.cell (p := ⟨w.heap.size + 1, 0, none⟩) (by go_simp)).trans (by go_simp)
  have lb2_22 : w.heap.size + 2 < w18.heap.size := Nat.lt_of_lt_of_le (by go_simp) hb18.size
  have yb2_0_22 : w18.cell? ⟨w.heap.size + 2, 0, none⟩ = some (.slice C nb cb) := (hb18.cell (p := ⟨w.heap.size + 2, 0, none⟩) (by go_simp)).trans (by go_simp)
  have lb3_22 : bF4 < w18.heap.size := Nat.lt_of_lt_of_le (by go_simp) hb18.size
  have yb3_0_22 : w18.cell? ⟨bF4, 0, none⟩ = some (.slice VA8 (dmgR gs ts xs t rs ys).1.p.length ka8) := (hb18.cell (p := ⟨bF4, 0, none⟩) (by go_simp)).trans (by go_simp)
  have yb3_1_22 : w18.cell? ⟨bF4, 1, none⟩ = some (.slice VB8 (dmgR gs ts xs t rs ys).1.q.length kb8) := (hb18.cell (p := ⟨bF4, 1, none⟩) (by go_simp)).trans (by go_simp)
  have yb3_2_22 : w18.cell? ⟨bF4, 2, none⟩ = some (.slice VC8 (dmgR gs ts xs t rs ys).1.r.length kd8) := (hb18.cell (p := ⟨bF4, 2, none⟩) (by go_simp)).trans (by go_simp)
  have lb4_22 : w10.heap.size < w18.heap.size := Nat.lt_of_lt_of_le (by go_simp) hb18.size
  have yb4_0_22 : w18.cell? ⟨w10.heap.size, 0, none⟩ = some (.slice G10 n n) := (hb18.cell (p := ⟨w10.heap.size, 0, none⟩) (by go_simp)).trans (by go_simp)
  have yb4_1_22 : w18.cell? ⟨w10.heap.size, 1, none⟩ = some (.slice T10 m m) := (hb18.cell (p := ⟨w10.heap.size, 1, none⟩) (by go_simp)).trans (by go_simp)
  have yb4_2_22 : w18.cell? ⟨w10.heap.size, 2, none⟩ = some (.slice A10 q q) := (hb18.cell (p := ⟨w10.heap.size, 2, none⟩) (by go_simp)).trans (by go_simp)
  have yb4_3_22 : w18.cell? ⟨w10.heap.size, 3, none⟩ = some (.int .i64 t) := (hb18.cell (p := ⟨w10.heap.size, 3, none⟩) (by go_simp)).trans (by go_simp)
  have lb5_22 : w11.heap.size < w18.heap.size := Nat.lt_of_lt_of_le (by go_simp) hb18.size
  have yb5_0_22 : w18.cell? ⟨w11.heap.size, 0, none⟩ = some (.slice A11 nd nd) := (hb18.cell (p := ⟨w11.heap.size, 0, none⟩) (by go_simp)).trans (by go_simp)
  have lb6_22 : w12.heap.size < w18.heap.size := Nat.lt_of_lt_of_le (by go_simp) hb18.size
  have yb6_0_22 : w18.cell? ⟨w12.heap.size, 0, none⟩ = some (.slice A12 nb nb) := (hb18.cell (p := ⟨w12.heap.size, 0, none⟩) (by go_simp)).trans (by go_simp)
  have lb7_22 : w13.heap.size < w18.heap.size := Nat.lt_of_lt_of_le (by go_simp) hb18.size
  have yb7_0_22 : w18.cell? ⟨w13.heap.size, 0, none⟩ = some (.slice VA13 (dmgR gs ts xs t rs ys).1.p.length ka13) := (hb18.cell (p := ⟨w13.heap.size, 0, none⟩) (by go_simp)).trans (by go_simp)
  have yb7_1_22 : w18.cell? ⟨w13.heap.size, 1, none⟩ = some (.slice VB13 (dmgR gs ts xs t rs ys).1.q.length kb13) := (hb18.cell (p := ⟨w13.heap.size, 1, none⟩) (by go_simp)).trans (by go_simp)
  have yb7_2_22 : w18.cell? ⟨w13.heap.size, 2, none⟩ = some (.slice VC13 (dmgR gs ts xs t rs ys).1.r.length kd13) := (hb18.cell (p := ⟨w13.heap.size, 2, none⟩) (by go_simp)).trans (by go_simp)
  clear yb7_2_21 yb7_1_21 yb7_0_21 lb7_21 yb6_0_21 lb6_21 yb5_0_21 lb5_21 yb4_3_21 yb4_2_21 yb4_1_21 yb4_0_21 lb4_21 yb3_2_21 yb3_1_21 yb3_0_21 lb3_21 yb2_0_21 lb2_21 yb1_0_21 lb1_21 yb0_3_21 yb0_2_21 yb0_1_21 yb0_0_21 lb0_21 kc17 kc15_21 kr13_21 kc12_21 kc11_21 kc10_21 krV4_21 kw_21 s22
  clear hb18
  repeat (first | ((with_reducible refine wpD_p (fun K hK => ?_)); go_simp; refine hK _ ?_; clear hK K) | ((with_reducible refine wpD_q (fun K hK => ?_)); go_simp; (first | refine hK _ ?_ | (go_bits; refine hK _ ?_) | (go_bits; go_simp; refine hK _ ?_)); clear hK K))
  with_reducible refine wpD_nil ?_
  go_wp2_with fail
  refine wp_region_ord [(0, .q), (1, .q), (2, .g), (3, .g), (4, .q)] (by kernel_rfl) (by kernel_rfl) ?_
  simp only [pick, List.filterMap_cons, List.filterMap_nil, List.getElem?_toArray, List.getElem?_cons_zero, List.getElem?_cons_succ, Option.map_some]
  repeat (first | ((with_reducible refine wpD_p (fun K hK => ?_)); go_simp; refine hK _ ?_; clear hK K) | ((with_reducible refine wpD_q (fun K hK => ?_)); go_simp; (first | refine hK _ ?_ | (go_bits; refine hK _ ?_) | (go_bits; go_simp; refine hK _ ?_)); clear hK K))
  with_reducible refine wpD_g (fun K hK => ?_)
  go_simp
  refine (toAssembly_any _ _ _ ys _ (hC.below RPl.stable bk_) (by omega)).mono ?_
  rintro e w19 ⟨A19, rfl, o19, hb19⟩
  refine ⟨_, rfl, hb19, hK _ _ ?_⟩
  clear hK K
  have s23 : w18.heap.size ≤ w19.heap.size := by have := hb19.size; (try simp at this); omega
  have s23H := Lib.hid s23
  have kw_23 : Below w.heap.size w w19 := bl_tr bk_ hb19
  have krV4_23 : Below w9.heap.size w9 w19 := bl_tr bk_ hb19
  have kc10_23 : Below w10.heap.size w10 w19 := bl_tr bk_ hb19
  have kc11_23 : Below w11.heap.size w11 w19 := bl_tr bk_ hb19
  have kc12_23 : Below w12.heap.size w12 w19 := bl_tr bk_ hb19
  have kr13_23 : Below w13.heap.size w13 w19 := bl_tr bk_ hb19
  have kc15_23 : Below w15.heap.size w15 w19 := bl_tr bk_ hb19
  have kc17_23 : Below w17.heap.size w17 w19 := bl_tr bk_ hb19
  have lb0_23 : w.heap.size < w19.heap.size := Nat.lt_of_lt_of_le (by go_simp) hb19.size
  have yb0_0_23 : w19.cell? ⟨w.heap.size, 0, none⟩ = some (.slice G n cg) := (hb19.cell (p := ⟨w.heap.size, 0, none⟩) (by go_simp)).trans (by go_simp)
  have yb0_1_23 : w19.cell? ⟨w.heap.size, 1, none⟩ = some (.slice T m ct) := (hb19.cell (p := ⟨w.heap.size, 1, none⟩) (by go_simp)).trans (by go_simp)
  have yb0_2_23 : w19.cell? ⟨w.heap.size, 2, none⟩ = some (.slice A q ca) := (hb19.cell (p := ⟨w.heap.size, 2, none⟩) (by go_simp)).trans (by go_simp)
  have yb0_3_23 : w19.cell? ⟨w.heap.size, 3, none⟩ = some (.int .i64 t) := (hb19.cell (p := ⟨w.heap.size, 3, none⟩) (by go_simp)).trans (by go_simp)
  have lb1_23 : w.heap.size + 1 < w19.heap.size := Nat.lt_of_lt_of_le (by go_simp) hb19.size
  have yb1_0_23 : w19.cell? ⟨w.heap.size + 1, 0, none⟩ = some (.slice D nd cd) := (hb19.cell (p := ⟨w.heap.size + 1, 0, none⟩) (by go_simp)).trans (by go_simp)
  have lb2_23 : w.heap.size + 2 < w19.heap.size := Nat.lt_of_lt_of_le (by go_simp) hb19.size
  have yb2_0_23 : w19.cell? ⟨w.heap.size + 2, 0, none⟩ = some (.slice C nb cb) := (hb19.cell (p := ⟨w.heap.size + 2, 0, none⟩) (by go_simp)).trans (by go_simp)
  have lb3_23 : bF4 < w19.heap.size := Nat.lt_of_lt_of_le (by go_simp) hb19.size
  have yb3_0_23 : w19.cell? ⟨bF4, 0, none⟩ = some (.slice VA8 (dmgR gs ts xs t rs ys).1.p.length ka8) := (hb19.cell (p := ⟨bF4, 0, none⟩) (by go_simp)).trans (by go_simp)
  have yb3_1_23 : w19.cell? ⟨bF4, 1, none⟩ = some (.slice VB8 (dmgR gs ts xs t rs ys).1.q.length kb8) := (hb19.cell (p := ⟨bF4, 1, none⟩) (by go_simp)).trans (by go_simp)
  have yb3_2_23 : w19.cell? ⟨bF4, 2, none⟩ = some (.slice VC8 (dmgR gs ts xs t rs ys).1.r.length kd8) := (hb19.cell (p := ⟨bF4, 2, none⟩) (by go_simp)).trans (by go_simp)
  have lb4_23 : w10.heap.size < w19.heap.size := Nat.lt_of_lt_of_le (by go_simp) hb19.size
  have yb4_0_23 : w19.cell? ⟨w10.heap.size, 0, none⟩ = some (.slice G10 n n) := (hb19.cell (p := ⟨w10.heap.size, 0, none⟩) (by go_simp)).trans (by go_simp)
  have yb4_1_23 : w19.cell? ⟨w10.heap.size, 1, none⟩ = some (.slice T10 m m) := (hb19.cell (p := ⟨w10.heap.size, 1, none⟩) (by go_simp)).trans (by go_simp)
  have yb4_2_23 : w19.cell? ⟨w10.heap.size, 2, none⟩ = some (.slice A10 q q) := (hb19.cell (p := ⟨w10.heap.size, 2, none⟩) (by go_simp)).trans (by go_simp)
  have yb4_3_23 : w19.cell? ⟨w10.heap.size, 3, none⟩ = some (.int .i64 t) := (hb19.cell (p := ⟨w10.heap.size, 3, none⟩) (by go_simp)).trans (by go_simp)
  have lb5_23 : w11.heap.size < w19.heap.size := Nat.lt_of_lt_of_le (by go_simp) hb19.size
  have yb5_0_23 : w19.cell? ⟨w11.heap.size, 0, none⟩ = some (.slice A11 nd nd) := (hb19.cell (p := ⟨w11.heap.size, 0, none⟩) (by go_simp)).trans (by go_simp)
  have lb6_23 : w12.heap.size < w19.heap.size := Nat.lt_of_lt_of_le (by go_simp) hb19.size
  have yb6_0_23 : w19.cell? ⟨w12.heap.size, 0, none⟩ = some (.slice A12 nb nb) := (hb19.cell (p := ⟨w12.heap.size, 0, none⟩) (by go_simp)).trans (by go_simp)
  have lb7_23 : w13.heap.size < w19.heap.size := Nat.lt_of_lt_of_le (by go_simp) hb19.size
  have yb7_0_23 : w19.cell? ⟨w13.heap.size, 0, none⟩ = some (.slice VA13 (dmgR gs ts xs t rs ys).1.p.length ka13) := (hb19.cell (p := ⟨w13.heap.size, 0, none⟩) (by go_simp)).trans (by go_simp)
  have yb7_1_23 : w19.cell? ⟨w13.heap.size, 1, none⟩ = some (.slice VB13 (dmgR gs ts xs t rs ys).1.q.length kb13) := (hb19.cell (p := ⟨w13.heap.size, 1, none⟩) (by go_simp)).trans (by go_simp)
  have yb7_2_23 : w19.cell? ⟨w13.heap.size, 2, none⟩ = some (.slice VC13 (dmgR gs ts xs t rs ys).1.r.length kd13) := (hb19.cell (p := ⟨w13.heap.size, 2, none⟩) (by go_simp)).trans (by go_simp)
  clear yb7_2_22 yb7_1_22 yb7_0_22 lb7_22 yb6_0_22 lb6_22 yb5_0_22 lb5_22 yb4_3_22 yb4_2_22 yb4_1_22 yb4_0_22 lb4_22 yb3_2_22 yb3_1_22 yb3_0_22 lb3_22 yb2_0_22 lb2_22 yb1_0_22 lb1_22 yb0_3_22 yb0_2_22 yb0_1_22 yb0_0_22 lb0_22 kc17_22 kc15_22 kr13_22 kc12_22 kc11_22 kc10_22 krV4_22 kw_22 s23
  clear hb19
  have kc19 : Below w19.heap.size w19 w19 := bl_refl _
  have o19H := Lib.hid o19
  clear o19
  with_reducible refine wpD_g (fun K hK => ?_)
  go_simp
  refine (eqAssembly_same _ _ _ _ _ ys _ (o12H.out.rd.below RPl.stable bk_) (o19H.out.rd.below RPl.stable bk_) (by omega)).mono ?_
  rintro e w20 ⟨rfl, hb20⟩
  refine ⟨_, rfl, hb20, hK _ _ ?_⟩
  clear hK K
  have s24 : w19.heap.size ≤ w20.heap.size := by have := hb20.size; (try simp at this); omega
  have s24H := Lib.hid s24
  have kw_24 : Below w.heap.size w w20 := bl_tr bk_ hb20
  have krV4_24 : Below w9.heap.size w9 w20 := bl_tr bk_ hb20
  have kc10_24 : Below w10.heap.size w10 w20 := bl_tr bk_ hb20
  have kc11_24 : Below w11.heap.size w11 w20 := bl_tr bk_ hb20
  have kc12_24 : Below w12.heap.size w12 w20 := bl_tr bk_ hb20
  have kr13_24 : Below w13.heap.size w13 w20 := bl_tr bk_ hb20
  have kc15_24 : Below w15.heap.size w15 w20 := bl_tr bk_ hb20
  have kc17_24 : Below w17.heap.size w17 w20 := bl_tr bk_ hb20
  have kc19_24 : Below w19.heap.size w19 w20 := bl_tr bk_ hb20
  have lb0_24 : w.heap.size < w20.heap.size := Nat.lt_of_lt_of_le (by go_simp) hb20.size
  have yb0_0_24 : w20.cell? ⟨w.heap.size, 0, none⟩ = some (.slice G n cg) := (hb20.cell (p := ⟨w.heap.size, 0, none⟩) (by go_simp)).trans (by go_simp)
  have yb0_1_24 : w20.cell? ⟨w.heap.size, 1, none⟩ = some (.slice T m ct) := (hb20.cell (p := ⟨w.heap.size, 1, none⟩) (by go_simp)).trans (by go_simp)
  have yb0_2_24 : w20.cell? ⟨w.heap.size, 2, none⟩ = some (.slice A q ca) := (hb20.cell (p := ⟨w.heap.size, 2, none⟩) (by go_simp)).trans (by go_simp)
  have yb0_3_24 : w20.cell? ⟨w.heap.size, 3, none⟩ = some (.int .i64 t) := (hb20.cell (p := ⟨w.heap.size, 3, none⟩) (by go_simp)).trans (by go_simp)
  have lb1_24 : w.heap.size + 1 < w20.heap.size := Nat.lt_of_lt_of_le (by go_simp) hb20.size
  have yb1_0_24 : w20.cell? ⟨w.heap.size + 1, 0, none⟩ = some (.slice D nd cd) := (hb20.cell (p := ⟨w.heap.size + 1, 0, none⟩) (by go_simp)).trans (by go_simp)
  have lb2_24 : w.heap.size + 2 < w20.heap.size := Nat.lt_of_lt_of_le (by go_simp) hb20.size
  have yb2_0_24 : w20.cell? ⟨w.heap.size + 2, 0, none⟩ = some (.slice C nb cb) := (hb20.cell (p := ⟨w.heap.size + 2, 0, none⟩) (by go_simp)).trans (by go_simp)
  have lb3_24 : bF4 < w20.heap.size := Nat.lt_of_lt_of_le (by go_simp) hb20.size
  have yb3_0_24 : w20.cell? ⟨bF4, 0, none⟩ = some (.slice VA8 (dmgR gs ts xs t rs ys).1.p.length ka8) := (hb20.cell (p := ⟨bF4, 0, none⟩) (by go_simp)).trans (by go_simp)
  have yb3_1_24 : w20.cell? ⟨bF4, 1, none⟩ = some (.slice VB8 (dmgR gs ts xs t rs ys).1.q.length kb8) := (hb20.cell (p := ⟨bF4, 1, none⟩) (by go_simp)).trans (by go_simp)
  have yb3_2_24 : w20.cell? ⟨bF4, 2, none⟩ = some (.slice VC8 (dmgR gs ts xs t rs ys).1.r.length kd8) := (hb20.cell (p := ⟨bF4, 2, none⟩) (by go_simp)).trans (by go_simp)
  have lb4_24 : w10.heap.size < w20.heap.size := Nat.lt_of_lt_of_le (by go_simp) hb20.size
  have yb4_0_24 : w20.cell? ⟨w10.heap.size, 0, none⟩ = some (.slice G10 n n) := (hb20.cell (p := ⟨w10.heap.size, 0, none⟩) (by go_simp)).trans (by go_simp)
  have yb4_1_24 : w20.cell? ⟨w10.heap.size, 1, none⟩ = some (.slice T10 m m) := (hb20.cell (p := ⟨w10.heap.size, 1, none⟩) (by go_simp)).trans (by go_simp)
  have yb4_2_24 : w20.cell? ⟨w10.heap.size, 2, none⟩ = some (.slice A10 q q) := (hb20.cell (p := ⟨w10.heap.size, 2, none⟩) (by go_simp)).trans (by go_simp)
  have yb4_3_24 : w20.cell? ⟨w10.heap.size, 3, none⟩ = some (.int .i64 t) := (hb20.cell (p := ⟨w10.heap.size, 3, none⟩) (by go_simp)).trans (by go_simp)
  have lb5_24 : w11.heap.size < w20.heap.size := Nat.lt_of_lt_of_le (by go_simp) hb20.size
  have yb5_0_24 : w20.cell? ⟨w11.heap.size, 0, none⟩ = some (.slice A11 nd nd) := (hb20.cell (p := ⟨w11.heap.size, 0, none⟩) (by go_simp)).trans (by go_simp)
  have lb6_24 : w12.heap.size < w20.heap.size := Nat.lt_of_lt_of_le (by go_simp) hb20.size
  have yb6_0_24 : w20.cell? ⟨w12.heap.size, 0, none⟩ = some (.slice A12 nb nb) := (hb20.cell (p := ⟨w12.heap.size, 0, none⟩) (by go_simp)).trans (by go_simp)
  have lb7_24 : w13.heap.size < w20.heap.size := Nat.lt_of_lt_of_le (by go_simp) hb20.size
  have yb7_0_24 : w20.cell? ⟨w13.heap.size, 0, none⟩ = some (.slice VA13 (dmgR gs ts xs t rs ys).1.p.length ka13) := (hb20.cell (p := ⟨w13.heap.size, 0, none⟩) (by go_simp)).trans (by go_simp)
  have yb7_1_24 : w20.cell? ⟨w13.heap.size, 1, none⟩ = some (.slice VB13 (dmgR gs ts xs t rs ys).1.q.length kb13) := (hb20.cell (p := ⟨w13.heap.size, 1, none⟩) (by go_simp)).trans (by go_simp)
  have yb7_2_24 : w20.cell? ⟨w13.heap.size, 2, none⟩ = some (.slice VC13 (dmgR gs ts xs t rs ys).1.r.length kd13) := (hb20.cell (p := ⟨w13.heap.size, 2, none⟩) (by go_simp)).trans (by go_simp)
  clear yb7_2_23 yb7_1_23 yb7_0_23 lb7_23 yb6_0_23 lb6_23 yb5_0_23 lb5_23 yb4_3_23 yb4_2_23 yb4_1_23 yb4_0_23 lb4_23 yb3_2_23 yb3_1_23 yb3_0_23 lb3_23 yb2_0_23 lb2_23 yb1_0_23 lb1_23 yb0_3_23 yb0_2_23 yb0_1_23 yb0_0_23 lb0_23 kc19 kc17_23 kc15_23 kr13_23 kc12_23 kc11_23 kc10_23 krV4_23 kw_23 s24
  clear hb20
  repeat (first | ((with_reducible refine wpD_p (fun K hK => ?_)); go_simp; refine hK _ ?_; clear hK K) | ((with_reducible refine wpD_q (fun K hK => ?_)); go_simp; (first | refine hK _ ?_ | (go_bits; refine hK _ ?_) | (go_bits; go_simp; refine hK _ ?_)); clear hK K))
  with_reducible refine wpD_nil ?_
  go_wp2_with fail
  have sB0H := Lib.hid lb0_24
  have sB1H := Lib.hid lb1_24
  have sB2H := Lib.hid lb2_24
  have sB3H := Lib.hid lb3_24
  have sB4H := Lib.hid lb4_24
  have sB5H := Lib.hid lb5_24
  have sB6H := Lib.hid lb6_24
  have sB7H := Lib.hid lb7_24
  have MS10 := Lib.hid ((ms10H.out.lo_ (lo' := (w9.heap.size)) om_).below kc10_24 (Nat.le_refl _))
  have MA11 := Lib.hid (((o11H.out.mk_).lo_ (lo' := (w10.heap.size + 1)) om_).below kc11_24 (Nat.le_refl _))
  have MA12 := Lib.hid (((o12H.out.mk_).lo_ (lo' := (w11.heap.size + 1)) om_).below kc12_24 (Nat.le_refl _))
  have OG13a := Lib.hid (Own3.rebase (lo' := (w12.heap.size + 1)) (Own3.below v13H.out kr13_24) om_)
  refine (markSystem_any _ _ _ n _ m _ q _ 1 (w9.heap.size) _ w10.heap.size _ _ (MkSys.below MS10.out bk_ om_) om_ om_ (by omega)).mono ?_
  rintro e w21 ⟨r21, rfl, hr211, hr212, hm21⟩
  clear MS10
  have s25 : w20.heap.size ≤ w21.heap.size := by have := hm21.size; (try simp at this); omega
  have s25H := Lib.hid s25
  have kw_25 : Below w.heap.size w w21 := Below.trans bk_ (hm21.below.mono om_)
  have krV4_25 : Below w9.heap.size w9 w21 := Below.trans bk_ (hm21.below.mono om_)
  have lb0_25 : w.heap.size < w21.heap.size := Nat.lt_of_lt_of_le (by go_simp) hm21.size
  have yb0_0_25 : w21.cell? ⟨w.heap.size, 0, none⟩ = some (.slice G n cg) := (hm21.below.cell (p := ⟨w.heap.size, 0, none⟩) om_).trans (by go_simp)
  have yb0_1_25 : w21.cell? ⟨w.heap.size, 1, none⟩ = some (.slice T m ct) := (hm21.below.cell (p := ⟨w.heap.size, 1, none⟩) om_).trans (by go_simp)
  have yb0_2_25 : w21.cell? ⟨w.heap.size, 2, none⟩ = some (.slice A q ca) := (hm21.below.cell (p := ⟨w.heap.size, 2, none⟩) om_).trans (by go_simp)
  have yb0_3_25 : w21.cell? ⟨w.heap.size, 3, none⟩ = some (.int .i64 t) := (hm21.below.cell (p := ⟨w.heap.size, 3, none⟩) om_).trans (by go_simp)
  have lb1_25 : w.heap.size + 1 < w21.heap.size := Nat.lt_of_lt_of_le (by go_simp) hm21.size
  have yb1_0_25 : w21.cell? ⟨w.heap.size + 1, 0, none⟩ = some (.slice D nd cd) := (hm21.below.cell (p := ⟨w.heap.size + 1, 0, none⟩) om_).trans (by go_simp)
  have lb2_25 : w.heap.size + 2 < w21.heap.size := Nat.lt_of_lt_of_le (by go_simp) hm21.size
  have yb2_0_25 : w21.cell? ⟨w.heap.size + 2, 0, none⟩ = some (.slice C nb cb) := (hm21.below.cell (p := ⟨w.heap.size + 2, 0, none⟩) om_).trans (by go_simp)
  have lb3_25 : bF4 < w21.heap.size := Nat.lt_of_lt_of_le (by go_simp) hm21.size
  have yb3_0_25 : w21.cell? ⟨bF4, 0, none⟩ = some (.slice VA8 (dmgR gs ts xs t rs ys).1.p.length ka8) := (hm21.below.cell (p := ⟨bF4, 0, none⟩) om_).trans (by go_simp)
  have yb3_1_25 : w21.cell? ⟨bF4, 1, none⟩ = some (.slice VB8 (dmgR gs ts xs t rs ys).1.q.length kb8) := (hm21.below.cell (p := ⟨bF4, 1, none⟩) om_).trans (by go_simp)
  have yb3_2_25 : w21.cell? ⟨bF4, 2, none⟩ = some (.slice VC8 (dmgR gs ts xs t rs ys).1.r.length kd8) := (hm21.below.cell (p := ⟨bF4, 2, none⟩) om_).trans (by go_simp)
  have lb4_25 : w10.heap.size < w21.heap.size := Nat.lt_of_lt_of_le (by go_simp) hm21.size
  have yb4_0_25 : w21.cell? ⟨w10.heap.size, 0, none⟩ = some (.slice G10 n n) := (World.cell?_of_block (a := ⟨w10.heap.size, 0, none⟩) (hm21.keep (w10.heap.size) om_ (by go_simp))).trans (by go_simp)
  have yb4_1_25 : w21.cell? ⟨w10.heap.size, 1, none⟩ = some (.slice T10 m m) := (World.cell?_of_block (a := ⟨w10.heap.size, 1, none⟩) (hm21.keep (w10.heap.size) om_ (by go_simp))).trans (by go_simp)
  have yb4_2_25 : w21.cell? ⟨w10.heap.size, 2, none⟩ = some (.slice A10 q q) := (World.cell?_of_block (a := ⟨w10.heap.size, 2, none⟩) (hm21.keep (w10.heap.size) om_ (by go_simp))).trans (by go_simp)
  have yb4_3_25 : w21.cell? ⟨w10.heap.size, 3, none⟩ = some (.int .i64 t) := (World.cell?_of_block (a := ⟨w10.heap.size, 3, none⟩) (hm21.keep (w10.heap.size) om_ (by go_simp))).trans (by go_simp)
  have lb5_25 : w11.heap.size < w21.heap.size := Nat.lt_of_lt_of_le (by go_simp) hm21.size
  have yb5_0_25 : w21.cell? ⟨w11.heap.size, 0, none⟩ = some (.slice A11 nd nd) := (World.cell?_of_block (a := ⟨w11.heap.size, 0, none⟩) (hm21.keep (w11.heap.size) om_ (by go_simp))).trans (by go_simp)
  have lb6_25 : w12.heap.size < w21.heap.size := Nat.lt_of_lt_of_le (by go_simp) hm21.size
  have yb6_0_25 : w21.cell? ⟨w12.heap.size, 0, none⟩ = some (.slice A12 nb nb) := (World.cell?_of_block (a := ⟨w12.heap.size, 0, none⟩) (hm21.keep (w12.heap.size) om_ (by go_simp))).trans (by go_simp)
  have lb7_25 : w13.heap.size < w21.heap.size := Nat.lt_of_lt_of_le (by go_simp) hm21.size
  have yb7_0_25 : w21.cell? ⟨w13.heap.size, 0, none⟩ = some (.slice VA13 (dmgR gs ts xs t rs ys).1.p.length ka13) := (World.cell?_of_block (a := ⟨w13.heap.size, 0, none⟩) (hm21.keep (w13.heap.size) om_ (by go_simp))).trans (by go_simp)
  have yb7_1_25 : w21.cell? ⟨w13.heap.size, 1, none⟩ = some (.slice VB13 (dmgR gs ts xs t rs ys).1.q.length kb13) := (World.cell?_of_block (a := ⟨w13.heap.size, 1, none⟩) (hm21.keep (w13.heap.size) om_ (by go_simp))).trans (by go_simp)
  have yb7_2_25 : w21.cell? ⟨w13.heap.size, 2, none⟩ = some (.slice VC13 (dmgR gs ts xs t rs ys).1.r.length kd13) := (World.cell?_of_block (a := ⟨w13.heap.size, 2, none⟩) (hm21.keep (w13.heap.size) om_ (by go_simp))).trans (by go_simp)
  have MA11_25 := Lib.hid (MkRow.mk (MkRow.below (MA11.out) bk_ om_) hm21 om_ om_)
  have MA12_25 := Lib.hid (MkRow.mk (MkRow.below (MA12.out) bk_ om_) hm21 om_ om_)
  have OG13a_25 := Lib.hid (Own3.mkd (Own3.below OG13a.out bk_) hm21 om_)
  clear OG13a MA12 MA11 yb7_2_24 yb7_1_24 yb7_0_24 lb7_24 yb6_0_24 lb6_24 yb5_0_24 lb5_24 yb4_3_24 yb4_2_24 yb4_1_24 yb4_0_24 lb4_24 yb3_2_24 yb3_1_24 yb3_0_24 lb3_24 yb2_0_24 lb2_24 yb1_0_24 lb1_24 yb0_3_24 yb0_2_24 yb0_1_24 yb0_0_24 lb0_24 kc19_24 kc17_24 kc15_24 kr13_24 kc12_24 kc11_24 kc10_24 krV4_24 kw_24 s25
  clear hm21
  go_wp2_with fail
  refine (markAssembly_any2 _ nd _ r21 (w10.heap.size + 1) w11.heap.size _ (MkRow.below MA11_25.out bk_ om_) om_ om_ (by omega)).mono ?_
  rintro e w22 ⟨r22, rfl, hr221, hr222, hm22⟩
  clear MA11_25
  have s26 : w21.heap.size ≤ w22.heap.size := by have := hm22.size; (try simp at this); omega
  have s26H := Lib.hid s26
  have kw_26 : Below w.heap.size w w22 := Below.trans bk_ (hm22.below.mono om_)
  have krV4_26 : Below w9.heap.size w9 w22 := Below.trans bk_ (hm22.below.mono om_)
  have lb0_26 : w.heap.size < w22.heap.size := Nat.lt_of_lt_of_le (by go_simp) hm22.size
  have yb0_0_26 : w22.cell? ⟨w.heap.size, 0, none⟩ = some (.slice G n cg) := (hm22.below.cell (p := ⟨w.heap.size, 0, none⟩) om_).trans (by go_simp)
  have yb0_1_26 : w22.cell? ⟨w.heap.size, 1, none⟩ = some (.slice T m ct) := (hm22.below.cell (p := ⟨w.heap.size, 1, none⟩) om_).trans (by go_simp)
  have yb0_2_26 : w22.cell? ⟨w.heap.size, 2, none⟩ = some (.slice A q ca) := (hm22.below.cell (p := ⟨w.heap.size, 2, none⟩) om_).trans (by go_simp)
  have yb0_3_26 : w22.cell? ⟨w.heap.size, 3, none⟩ = some (.int .i64 t) := (hm22.below.cell (p := ⟨w.heap.size, 3, none⟩) om_).trans (by go_simp)
  have lb1_26 : w.heap.size + 1 < w22.heap.size := Nat.lt_of_lt_of_le (by go_simp) hm22.size
  have yb1_0_26 : w22.cell? ⟨w.heap.size + 1, 0, none⟩ = some (.slice D nd cd) := (hm22.below.cell (p := ⟨w.heap.size + 1, 0, none⟩) om_).trans (by go_simp)
  have lb2_26 : w.heap.size + 2 < w22.heap.size := Nat.lt_of_lt_of_le (by go_simp) hm22.size
  have yb2_0_26 : w22.cell? ⟨w.heap.size + 2, 0, none⟩ = some (.slice C nb cb) := (hm22.below.cell (p := ⟨w.heap.size + 2, 0, none⟩) om_).trans (by go_simp)
  have lb3_26 : bF4 < w22.heap.size := Nat.lt_of_lt_of_le (by go_simp) hm22.size
  have yb3_0_26 : w22.cell? ⟨bF4, 0, none⟩ = some (.slice VA8 (dmgR gs ts xs t rs ys).1.p.length ka8) := (hm22.below.cell (p := ⟨bF4, 0, none⟩) om_).trans (by go_simp)
  have yb3_1_26 : w22.cell? ⟨bF4, 1, none⟩ = some (.slice VB8 (dmgR gs ts xs t rs ys).1.q.length kb8) := (hm22.below.cell (p := ⟨bF4, 1, none⟩) om_).trans (by go_simp)
  have yb3_2_26 : w22.cell? ⟨bF4, 2, none⟩ = some (.slice VC8 (dmgR gs ts xs t rs ys).1.r.length kd8) := (hm22.below.cell (p := ⟨bF4, 2, none⟩) om_).trans (by go_simp)
  have lb4_26 : w10.heap.size < w22.heap.size := Nat.lt_of_lt_of_le (by go_simp) hm22.size
  have yb4_0_26 : w22.cell? ⟨w10.heap.size, 0, none⟩ = some (.slice G10 n n) := (hm22.below.cell (p := ⟨w10.heap.size, 0, none⟩) om_).trans (by go_simp)
  have yb4_1_26 : w22.cell? ⟨w10.heap.size, 1, none⟩ = some (.slice T10 m m) := (hm22.below.cell (p := ⟨w10.heap.size, 1, none⟩) om_).trans (by go_simp)
  have yb4_2_26 : w22.cell? ⟨w10.heap.size, 2, none⟩ = some (.slice A10 q q) := (hm22.below.cell (p := ⟨w10.heap.size, 2, none⟩) om_).trans (by go_simp)
  have yb4_3_26 : w22.cell? ⟨w10.heap.size, 3, none⟩ = some (.int .i64 t) := (hm22.below.cell (p := ⟨w10.heap.size, 3, none⟩) om_).trans (by go_simp)
  have lb5_26 : w11.heap.size < w22.heap.size := Nat.lt_of_lt_of_le (by go_simp) hm22.size
  have yb5_0_26 : w22.cell? ⟨w11.heap.size, 0, none⟩ = some (.slice A11 nd nd) := (World.cell?_of_block (a := ⟨w11.heap.size, 0, none⟩) (hm22.keep (w11.heap.size) om_ (by go_simp))).trans (by go_simp)
  have lb6_26 : w12.heap.size < w22.heap.size := Nat.lt_of_lt_of_le (by go_simp) hm22.size
  have yb6_0_26 : w22.cell? ⟨w12.heap.size, 0, none⟩ = some (.slice A12 nb nb) := (World.cell?_of_block (a := ⟨w12.heap.size, 0, none⟩) (hm22.keep (w12.heap.size) om_ (by go_simp))).trans (by go_simp)
  have lb7_26 : w13.heap.size < w22.heap.size := Nat.lt_of_lt_of_le (by go_simp) hm22.size
  have yb7_0_26 : w22.cell? ⟨w13.heap.size, 0, none⟩ = some (.slice VA13 (dmgR gs ts xs t rs ys).1.p.length ka13) := (World.cell?_of_block (a := ⟨w13.heap.size, 0, none⟩) (hm22.keep (w13.heap.size) om_ (by go_simp))).trans (by go_simp)
  have yb7_1_26 : w22.cell? ⟨w13.heap.size, 1, none⟩ = some (.slice VB13 (dmgR gs ts xs t rs ys).1.q.length kb13) := (World.cell?_of_block (a := ⟨w13.heap.size, 1, none⟩) (hm22.keep (w13.heap.size) om_ (by go_simp))).trans (by go_simp)
  have yb7_2_26 : w22.cell? ⟨w13.heap.size, 2, none⟩ = some (.slice VC13 (dmgR gs ts xs t rs ys).1.r.length kd13) := (World.cell?_of_block (a := ⟨w13.heap.size, 2, none⟩) (hm22.keep (w13.heap.size) om_ (by go_simp))).trans (by go_simp)
  have MA12_26 := Lib.hid (MkRow.mk (MkRow.below (MA12_25.out) bk_ om_) hm22 om_ om_)
  have OG13a_26 := Lib.hid (Own3.mkd (Own3.below OG13a_25.out bk_) hm22 om_)
  clear OG13a_25 MA12_25 yb7_2_25 yb7_1_25 yb7_0_25 lb7_25 yb6_0_25 lb6_25 yb5_0_25 lb5_25 yb4_3_25 yb4_2_25 yb4_1_25 yb4_0_25 lb4_25 yb3_2_25 yb3_1_25 yb3_0_25 lb3_25 yb2_0_25 lb2_25 yb1_0_25 lb1_25 yb0_3_25 yb0_2_25 yb0_1_25 yb0_0_25 lb0_25 krV4_25 kw_25 s26
  clear hm22
  go_wp2_with fail
  refine (markAssembly_any2 _ nb _ r22 (w11.heap.size + 1) w12.heap.size _ (MkRow.below MA12_26.out bk_ om_) om_ om_ (by omega)).mono ?_
  rintro e w23 ⟨r23, rfl, hr231, hr232, hm23⟩
  clear MA12_26
  have s27 : w22.heap.size ≤ w23.heap.size := by have := hm23.size; (try simp at this); omega
  have s27H := Lib.hid s27
  have kw_27 : Below w.heap.size w w23 := Below.trans bk_ (hm23.below.mono om_)
  have krV4_27 : Below w9.heap.size w9 w23 := Below.trans bk_ (hm23.below.mono om_)
  have lb0_27 : w.heap.size < w23.heap.size := Nat.lt_of_lt_of_le (by go_simp) hm23.size
  have yb0_0_27 : w23.cell? ⟨w.heap.size, 0, none⟩ = some (.slice G n cg) := (hm23.below.cell (p := ⟨w.heap.size, 0, none⟩) om_).trans (by go_simp)
  have yb0_1_27 : w23.cell? ⟨w.heap.size, 1, none⟩ = some (.slice T m ct) := (hm23.below.cell (p := ⟨w.heap.size, 1, none⟩) om_).trans (by go_simp)
  have yb0_2_27 : w23.cell? ⟨w.heap.size, 2, none⟩ = some (.slice A q ca) := (hm23.below.cell (p := ⟨w.heap.size, 2, none⟩) om_).trans (by go_simp)
  have yb0_3_27 : w23.cell? ⟨w.heap.size, 3, none⟩ = some (.int .i64 t) := (hm23.below.cell (p := ⟨w.heap.size, 3, none⟩) om_).trans (by go_simp)
  have lb1_27 : w.heap.size + 1 < w23.heap.size := Nat.lt_of_lt_of_le (by go_simp) hm23.size
  have yb1_0_27 : w23.cell? ⟨w.heap.size + 1, 0, none⟩ = some (.slice D nd cd) := (hm23.below.cell (p := ⟨w.heap.size + 1, 0, none⟩) om_).trans (by go_simp)
  have lb2_27 : w.heap.size + 2 < w23.heap.size := Nat.lt_of_lt_of_le (by go_simp) hm23.size
  have yb2_0_27 : w23.cell? ⟨w.heap.size + 2, 0, none⟩ = some (.slice C nb cb) := (hm23.below.cell (p := ⟨w.heap.size + 2, 0, none⟩) om_).trans (by go_simp)
  have lb3_27 : bF4 < w23.heap.size := Nat.lt_of_lt_of_le (by go_simp) hm23.size
  have yb3_0_27 : w23.cell? ⟨bF4, 0, none⟩ = some (.slice VA8 (dmgR gs ts xs t rs ys).1.p.length ka8) := (hm23.below.cell (p := ⟨bF4, 0, none⟩) om_).trans (by go_simp)
  have yb3_1_27 : w23.cell? ⟨bF4, 1, none⟩ = some (.slice VB8 (dmgR gs ts xs t rs ys).1.q.length kb8) := (hm23.below.cell (p := ⟨bF4, 1, none⟩) om_).trans (by go_simp)
  have yb3_2_27 : w23.cell? ⟨bF4, 2, none⟩ = some (.slice VC8 (dmgR gs ts xs t rs ys).1.r.length kd8) := (hm23.below.cell (p := ⟨bF4, 2, none⟩) om_).trans (by go_simp)
  have lb4_27 : w10.heap.size < w23.heap.size := Nat.lt_of_lt_of_le (by go_simp) hm23.size
  have yb4_0_27 : w23.cell? ⟨w10.heap.size, 0, none⟩ = some (.slice G10 n n) := (hm23.below.cell (p := ⟨w10.heap.size, 0, none⟩) om_).trans (by go_simp)
  have yb4_1_27 : w23.cell? ⟨w10.heap.size, 1, none⟩ = some (.slice T10 m m) := (hm23.below.cell (p := ⟨w10.heap.size, 1, none⟩) om_).trans (by go_simp)
  have yb4_2_27 : w23.cell? ⟨w10.heap.size, 2, none⟩ = some (.slice A10 q q) := (hm23.below.cell (p := ⟨w10.heap.size, 2, none⟩) om_).trans (by go_simp)
  have yb4_3_27 : w23.cell? ⟨w10.heap.size, 3, none⟩ = some (.int .i64 t) := (hm23.below.cell (p := ⟨w10.heap.size, 3, none⟩) om_).trans (by go_simp)
  have lb5_27 : w11.heap.size < w23.heap.size := Nat.lt_of_lt_of_le (by go_simp) hm23.size
  have yb5_0_27 : w23.cell? ⟨w11.heap.size, 0, none⟩ = some (.slice A11 nd nd) := (hm23.below.cell (p := ⟨w11.heap.size, 0, none⟩) om_).trans (by go_simp)
  have lb6_27 : w12.heap.size < w23.heap.size := Nat.lt_of_lt_of_le (by go_simp) hm23.size
  have yb6_0_27 : w23.cell? ⟨w12.heap.size, 0, none⟩ = some (.slice A12 nb nb) := (World.cell?_of_block (a := ⟨w12.heap.size, 0, none⟩) (hm23.keep (w12.heap.size) om_ (by go_simp))).trans (by go_simp)
  have lb7_27 : w13.heap.size < w23.heap.size := Nat.lt_of_lt_of_le (by go_simp) hm23.size
  have yb7_0_27 : w23.cell? ⟨w13.heap.size, 0, none⟩ = some (.slice VA13 (dmgR gs ts xs t rs ys).1.p.length ka13) := (World.cell?_of_block (a := ⟨w13.heap.size, 0, none⟩) (hm23.keep (w13.heap.size) om_ (by go_simp))).trans (by go_simp)
  have yb7_1_27 : w23.cell? ⟨w13.heap.size, 1, none⟩ = some (.slice VB13 (dmgR gs ts xs t rs ys).1.q.length kb13) := (World.cell?_of_block (a := ⟨w13.heap.size, 1, none⟩) (hm23.keep (w13.heap.size) om_ (by go_simp))).trans (by go_simp)
  have yb7_2_27 : w23.cell? ⟨w13.heap.size, 2, none⟩ = some (.slice VC13 (dmgR gs ts xs t rs ys).1.r.length kd13) := (World.cell?_of_block (a := ⟨w13.heap.size, 2, none⟩) (hm23.keep (w13.heap.size) om_ (by go_simp))).trans (by go_simp)
  have OG13a_27 := Lib.hid (Own3.mkd (Own3.below OG13a_26.out bk_) hm23 om_)
  clear OG13a_26 yb7_2_26 yb7_1_26 yb7_0_26 lb7_26 yb6_0_26 lb6_26 yb5_0_26 lb5_26 yb4_3_26 yb4_2_26 yb4_1_26 yb4_0_26 lb4_26 yb3_2_26 yb3_1_26 yb3_0_26 lb3_26 yb2_0_26 lb2_26 yb1_0_26 lb1_26 yb0_3_26 yb0_2_26 yb0_1_26 yb0_0_26 lb0_26 krV4_26 kw_26 s27
  clear hm23
  go_wp2_with fail
  refine (eqDamage_same _ _ _ _ _ _ _ _ _ _ _ _ (dmgR gs ts xs t rs ys).1 _ (Own3.rd (Own3.below OG13a_27.out bk_)) (Own3.rd (Own3.below vV8_0H.out bk_)) hRl.out).mono ?_
  rintro e w24 ⟨rfl, hb24⟩
  have s28 : w23.heap.size ≤ w24.heap.size := by have := hb24.size; (try simp at this); omega
  have s28H := Lib.hid s28
  have kw_28 : Below w.heap.size w w24 := bl_tr bk_ hb24
  have krV4_28 : Below w9.heap.size w9 w24 := bl_tr bk_ hb24
  have lb0_28 : w.heap.size < w24.heap.size := Nat.lt_of_lt_of_le (by go_simp) hb24.size
  have yb0_0_28 : w24.cell? ⟨w.heap.size, 0, none⟩ = some (.slice G n cg) := (hb24.cell (p := ⟨w.heap.size, 0, none⟩) (by go_simp)).trans (by go_simp)
  have yb0_1_28 : w24.cell? ⟨w.heap.size, 1, none⟩ = some (.slice T m ct) := (hb24.cell (p := ⟨w.heap.size, 1, none⟩) (by go_simp)).trans (by go_simp)
  have yb0_2_28 : w24.cell? ⟨w.heap.size, 2, none⟩ = some (.slice A q ca) := (hb24.cell (p := ⟨w.heap.size, 2, none⟩) (by go_simp)).trans (by go_simp)
  have yb0_3_28 : w24.cell? ⟨w.heap.size, 3, none⟩ = some (.int .i64 t) := (hb24.cell (p := ⟨w.heap.size, 3, none⟩) (by go_simp)).trans (by go_simp)
  have lb1_28 : w.heap.size + 1 < w24.heap.size := Nat.lt_of_lt_of_le (by go_simp) hb24.size
  have yb1_0_28 : w24.cell? ⟨w.heap.size + 1, 0, none⟩ = some (.slice D nd cd) := (hb24.cell (p := ⟨w.heap.size + 1, 0, none⟩) (by go_simp)).trans (by go_simp)
  have lb2_28 : w.heap.size + 2 < w24.heap.size := Nat.lt_of_lt_of_le (by go_simp) hb24.size
  have yb2_0_28 : w24.cell? ⟨w.heap.size + 2, 0, none⟩ = some (.slice C nb cb) := (hb24.cell (p := ⟨w.heap.size + 2, 0, none⟩) (by go_simp)).trans (by go_simp)
  have lb3_28 : bF4 < w24.heap.size := Nat.lt_of_lt_of_le (by go_simp) hb24.size
  have yb3_0_28 : w24.cell? ⟨bF4, 0, none⟩ = some (.slice VA8 (dmgR gs ts xs t rs ys).1.p.length ka8) := (hb24.cell (p := ⟨bF4, 0, none⟩) (by go_simp)).trans (by go_simp)
  have yb3_1_28 : w24.cell? ⟨bF4, 1, none⟩ = some (.slice VB8 (dmgR gs ts xs t rs ys).1.q.length kb8) := (hb24.cell (p := ⟨bF4, 1, none⟩) (by go_simp)).trans (by go_simp)
  have yb3_2_28 : w24.cell? ⟨bF4, 2, none⟩ = some (.slice VC8 (dmgR gs ts xs t rs ys).1.r.length kd8) := (hb24.cell (p := ⟨bF4, 2, none⟩) (by go_simp)).trans (by go_simp)
  have lb4_28 : w10.heap.size < w24.heap.size := Nat.lt_of_lt_of_le (by go_simp) hb24.size
  have yb4_0_28 : w24.cell? ⟨w10.heap.size, 0, none⟩ = some (.slice G10 n n) := (hb24.cell (p := ⟨w10.heap.size, 0, none⟩) (by go_simp)).trans (by go_simp)
  have yb4_1_28 : w24.cell? ⟨w10.heap.size, 1, none⟩ = some (.slice T10 m m) := (hb24.cell (p := ⟨w10.heap.size, 1, none⟩) (by go_simp)).trans (by go_simp)
  have yb4_2_28 : w24.cell? ⟨w10.heap.size, 2, none⟩ = some (.slice A10 q q) := (hb24.cell (p := ⟨w10.heap.size, 2, none⟩) (by go_simp)).trans (by go_simp)
  have yb4_3_28 : w24.cell? ⟨w10.heap.size, 3, none⟩ = some (.int .i64 t) := (hb24.cell (p := ⟨w10.heap.size, 3, none⟩) (by go_simp)).trans (by go_simp)
  have lb5_28 : w11.heap.size < w24.heap.size := Nat.lt_of_lt_of_le (by go_simp) hb24.size
  have yb5_0_28 : w24.cell? ⟨w11.heap.size, 0, none⟩ = some (.slice A11 nd nd) := (hb24.cell (p := ⟨w11.heap.size, 0, none⟩) (by go_simp)).trans (by go_simp)
  have lb6_28 : w12.heap.size < w24.heap.size := Nat.lt_of_lt_of_le (by go_simp) hb24.size
  have yb6_0_28 : w24.cell? ⟨w12.heap.size, 0, none⟩ = some (.slice A12 nb nb) := (hb24.cell (p := ⟨w12.heap.size, 0, none⟩) (by go_simp)).trans (by go_simp)
  have lb7_28 : w13.heap.size < w24.heap.size := Nat.lt_of_lt_of_le (by go_simp) hb24.size
  have yb7_0_28 : w24.cell? ⟨w13.heap.size, 0, none⟩ = some (.slice VA13 (dmgR gs ts xs t rs ys).1.p.length ka13) := (hb24.cell (p := ⟨w13.heap.size, 0, none⟩) (by go_simp)).trans (by go_simp)
  have yb7_1_28 : w24.cell? ⟨w13.heap.size, 1, none⟩ = some (.slice VB13 (dmgR gs ts xs t rs ys).1.q.length kb13) := (hb24.cell (p := ⟨w13.heap.size, 1, none⟩) (by go_simp)).trans (by go_simp)
  have yb7_2_28 : w24.cell? ⟨w13.heap.size, 2, none⟩ = some (.slice VC13 (dmgR gs ts xs t rs ys).1.r.length kd13) := (hb24.cell (p := ⟨w13.heap.size, 2, none⟩) (by go_simp)).trans (by go_simp)
  have OG13a_28 := Lib.hid (Own3.below (Own3.below OG13a_27.out bk_) hb24)
  clear OG13a_27 yb7_2_27 yb7_1_27 yb7_0_27 lb7_27 yb6_0_27 lb6_27 yb5_0_27 lb5_27 yb4_3_27 yb4_2_27 yb4_1_27 yb4_0_27 lb4_27 yb3_2_27 yb3_1_27 yb3_0_27 lb3_27 yb2_0_27 lb2_27 yb1_0_27 lb1_27 yb0_3_27 yb0_2_27 yb0_1_27 yb0_0_27 lb0_27 krV4_27 kw_27 s28
  clear hb24
  go_wp2_with fail
  refine (markDamage_c _ _ _ _ _ _ 1 (w12.heap.size + 1) _ _ _ (Own3.below OG13a_28.out bk_) om_ om_ hRl.out (by have := hRl.out; omega)).mono ?_
  rintro e w25 ⟨rfl, hm25, mc25⟩
  clear OG13a_28
  have s29 : w24.heap.size ≤ w25.heap.size := by have := hm25.size; (try simp at this); omega
  have s29H := Lib.hid s29
  have kw_29 : Below w.heap.size w w25 := Below.trans bk_ (hm25.below.mono om_)
  have krV4_29 : Below w9.heap.size w9 w25 := Below.trans bk_ (hm25.below.mono om_)
  have lb0_29 : w.heap.size < w25.heap.size := Nat.lt_of_lt_of_le (by go_simp) hm25.size
  have yb0_0_29 : w25.cell? ⟨w.heap.size, 0, none⟩ = some (.slice G n cg) := (hm25.below.cell (p := ⟨w.heap.size, 0, none⟩) om_).trans (by go_simp)
  have yb0_1_29 : w25.cell? ⟨w.heap.size, 1, none⟩ = some (.slice T m ct) := (hm25.below.cell (p := ⟨w.heap.size, 1, none⟩) om_).trans (by go_simp)
  have yb0_2_29 : w25.cell? ⟨w.heap.size, 2, none⟩ = some (.slice A q ca) := (hm25.below.cell (p := ⟨w.heap.size, 2, none⟩) om_).trans (by go_simp)
  have yb0_3_29 : w25.cell? ⟨w.heap.size, 3, none⟩ = some (.int .i64 t) := (hm25.below.cell (p := ⟨w.heap.size, 3, none⟩) om_).trans (by go_simp)
  have lb1_29 : w.heap.size + 1 < w25.heap.size := Nat.lt_of_lt_of_le (by go_simp) hm25.size
  have yb1_0_29 : w25.cell? ⟨w.heap.size + 1, 0, none⟩ = some (.slice D nd cd) := (hm25.below.cell (p := ⟨w.heap.size + 1, 0, none⟩) om_).trans (by go_simp)
  have lb2_29 : w.heap.size + 2 < w25.heap.size := Nat.lt_of_lt_of_le (by go_simp) hm25.size
  have yb2_0_29 : w25.cell? ⟨w.heap.size + 2, 0, none⟩ = some (.slice C nb cb) := (hm25.below.cell (p := ⟨w.heap.size + 2, 0, none⟩) om_).trans (by go_simp)
  have lb3_29 : bF4 < w25.heap.size := Nat.lt_of_lt_of_le (by go_simp) hm25.size
  have yb3_0_29 : w25.cell? ⟨bF4, 0, none⟩ = some (.slice VA8 (dmgR gs ts xs t rs ys).1.p.length ka8) := (hm25.below.cell (p := ⟨bF4, 0, none⟩) om_).trans (by go_simp)
  have yb3_1_29 : w25.cell? ⟨bF4, 1, none⟩ = some (.slice VB8 (dmgR gs ts xs t rs ys).1.q.length kb8) := (hm25.below.cell (p := ⟨bF4, 1, none⟩) om_).trans (by go_simp)
  have yb3_2_29 : w25.cell? ⟨bF4, 2, none⟩ = some (.slice VC8 (dmgR gs ts xs t rs ys).1.r.length kd8) := (hm25.below.cell (p := ⟨bF4, 2, none⟩) om_).trans (by go_simp)
  have lb4_29 : w10.heap.size < w25.heap.size := Nat.lt_of_lt_of_le (by go_simp) hm25.size
  have yb4_0_29 : w25.cell? ⟨w10.heap.size, 0, none⟩ = some (.slice G10 n n) := (hm25.below.cell (p := ⟨w10.heap.size, 0, none⟩) om_).trans (by go_simp)
  have yb4_1_29 : w25.cell? ⟨w10.heap.size, 1, none⟩ = some (.slice T10 m m) := (hm25.below.cell (p := ⟨w10.heap.size, 1, none⟩) om_).trans (by go_simp)
  have yb4_2_29 : w25.cell? ⟨w10.heap.size, 2, none⟩ = some (.slice A10 q q) := (hm25.below.cell (p := ⟨w10.heap.size, 2, none⟩) om_).trans (by go_simp)
  have yb4_3_29 : w25.cell? ⟨w10.heap.size, 3, none⟩ = some (.int .i64 t) := (hm25.below.cell (p := ⟨w10.heap.size, 3, none⟩) om_).trans (by go_simp)
  have lb5_29 : w11.heap.size < w25.heap.size := Nat.lt_of_lt_of_le (by go_simp) hm25.size
  have yb5_0_29 : w25.cell? ⟨w11.heap.size, 0, none⟩ = some (.slice A11 nd nd) := (hm25.below.cell (p := ⟨w11.heap.size, 0, none⟩) om_).trans (by go_simp)
  have lb6_29 : w12.heap.size < w25.heap.size := Nat.lt_of_lt_of_le (by go_simp) hm25.size
  have yb6_0_29 : w25.cell? ⟨w12.heap.size, 0, none⟩ = some (.slice A12 nb nb) := (hm25.below.cell (p := ⟨w12.heap.size, 0, none⟩) om_).trans (by go_simp)
  have lb7_29 : w13.heap.size < w25.heap.size := Nat.lt_of_lt_of_le (by go_simp) hm25.size
  have yb7_0_29 : w25.cell? ⟨w13.heap.size, 0, none⟩ = some (.slice VA13 (dmgR gs ts xs t rs ys).1.p.length ka13) := (World.cell?_of_block (a := ⟨w13.heap.size, 0, none⟩) (hm25.keep (w13.heap.size) om_ (by go_simp))).trans (by go_simp)
  have yb7_1_29 : w25.cell? ⟨w13.heap.size, 1, none⟩ = some (.slice VB13 (dmgR gs ts xs t rs ys).1.q.length kb13) := (World.cell?_of_block (a := ⟨w13.heap.size, 1, none⟩) (hm25.keep (w13.heap.size) om_ (by go_simp))).trans (by go_simp)
  have yb7_2_29 : w25.cell? ⟨w13.heap.size, 2, none⟩ = some (.slice VC13 (dmgR gs ts xs t rs ys).1.r.length kd13) := (World.cell?_of_block (a := ⟨w13.heap.size, 2, none⟩) (hm25.keep (w13.heap.size) om_ (by go_simp))).trans (by go_simp)
  clear yb7_2_28 yb7_1_28 yb7_0_28 lb7_28 yb6_0_28 lb6_28 yb5_0_28 lb5_28 yb4_3_28 yb4_2_28 yb4_1_28 yb4_0_28 lb4_28 yb3_2_28 yb3_1_28 yb3_0_28 lb3_28 yb2_0_28 lb2_28 yb1_0_28 lb1_28 yb0_3_28 yb0_2_28 yb0_1_28 yb0_0_28 lb0_28 krV4_28 kw_28 s29
  have Mc25 := Lib.hid mc25
  clear mc25 hm25
  go_wp2_with fail
  refine (heldDamage_any _ _ _ _ _ _ 1 _ _ _ _ (Marked3.below Mc25.out bk_ om_) om_ hRl.out (by have := hRl.out; omega)).mono ?_
  rintro e w26 ⟨rfl, hb26⟩
  have s30 : w25.heap.size ≤ w26.heap.size := by have := hb26.size; (try simp at this); omega
  have s30H := Lib.hid s30
  have kw_30 : Below w.heap.size w w26 := bl_tr bk_ hb26
  have krV4_30 : Below w9.heap.size w9 w26 := bl_tr bk_ hb26
  have lb0_30 : w.heap.size < w26.heap.size := Nat.lt_of_lt_of_le (by go_simp) hb26.size
  have yb0_0_30 : w26.cell? ⟨w.heap.size, 0, none⟩ = some (.slice G n cg) := (hb26.cell (p := ⟨w.heap.size, 0, none⟩) (by go_simp)).trans (by go_simp)
  have yb0_1_30 : w26.cell? ⟨w.heap.size, 1, none⟩ = some (.slice T m ct) := (hb26.cell (p := ⟨w.heap.size, 1, none⟩) (by go_simp)).trans (by go_simp)
  have yb0_2_30 : w26.cell? ⟨w.heap.size, 2, none⟩ = some (.slice A q ca) := (hb26.cell (p := ⟨w.heap.size, 2, none⟩) (by go_simp)).trans (by go_simp)
  have yb0_3_30 : w26.cell? ⟨w.heap.size, 3, none⟩ = some (.int .i64 t) := (hb26.cell (p := ⟨w.heap.size, 3, none⟩) (by go_simp)).trans (by go_simp)
  have lb1_30 : w.heap.size + 1 < w26.heap.size := Nat.lt_of_lt_of_le (by go_simp) hb26.size
  have yb1_0_30 : w26.cell? ⟨w.heap.size + 1, 0, none⟩ = some (.slice D nd cd) := (hb26.cell (p := ⟨w.heap.size + 1, 0, none⟩) (by go_simp)).trans (by go_simp)
  have lb2_30 : w.heap.size + 2 < w26.heap.size := Nat.lt_of_lt_of_le (by go_simp) hb26.size
  have yb2_0_30 : w26.cell? ⟨w.heap.size + 2, 0, none⟩ = some (.slice C nb cb) := (hb26.cell (p := ⟨w.heap.size + 2, 0, none⟩) (by go_simp)).trans (by go_simp)
  have lb3_30 : bF4 < w26.heap.size := Nat.lt_of_lt_of_le (by go_simp) hb26.size
  have yb3_0_30 : w26.cell? ⟨bF4, 0, none⟩ = some (.slice VA8 (dmgR gs ts xs t rs ys).1.p.length ka8) := (hb26.cell (p := ⟨bF4, 0, none⟩) (by go_simp)).trans (by go_simp)
  have yb3_1_30 : w26.cell? ⟨bF4, 1, none⟩ = some (.slice VB8 (dmgR gs ts xs t rs ys).1.q.length kb8) := (hb26.cell (p := ⟨bF4, 1, none⟩) (by go_simp)).trans (by go_simp)
  have yb3_2_30 : w26.cell? ⟨bF4, 2, none⟩ = some (.slice VC8 (dmgR gs ts xs t rs ys).1.r.length kd8) := (hb26.cell (p := ⟨bF4, 2, none⟩) (by go_simp)).trans (by go_simp)
  have lb4_30 : w10.heap.size < w26.heap.size := Nat.lt_of_lt_of_le (by go_simp) hb26.size
  have yb4_0_30 : w26.cell? ⟨w10.heap.size, 0, none⟩ = some (.slice G10 n n) := (hb26.cell (p := ⟨w10.heap.size, 0, none⟩) (by go_simp)).trans (by go_simp)
  have yb4_1_30 : w26.cell? ⟨w10.heap.size, 1, none⟩ = some (.slice T10 m m) := (hb26.cell (p := ⟨w10.heap.size, 1, none⟩) (by go_simp)).trans (by go_simp)
  have yb4_2_30 : w26.cell? ⟨w10.heap.size, 2, none⟩ = some (.slice A10 q q) := (hb26.cell (p := ⟨w10.heap.size, 2, none⟩) (by go_simp)).trans (by go_simp)
  have yb4_3_30 : w26.cell? ⟨w10.heap.size, 3, none⟩ = some (.int .i64 t) := (hb26.cell (p := ⟨w10.heap.size, 3, none⟩) (by go_simp)).trans (by go_simp)
  have lb5_30 : w11.heap.size < w26.heap.size := Nat.lt_of_lt_of_le (by go_simp) hb26.size
  have yb5_0_30 : w26.cell? ⟨w11.heap.size, 0, none⟩ = some (.slice A11 nd nd) := (hb26.cell (p := ⟨w11.heap.size, 0, none⟩) (by go_simp)).trans (by go_simp)
  have lb6_30 : w12.heap.size < w26.heap.size := Nat.lt_of_lt_of_le (by go_simp) hb26.size
  have yb6_0_30 : w26.cell? ⟨w12.heap.size, 0, none⟩ = some (.slice A12 nb nb) := (hb26.cell (p := ⟨w12.heap.size, 0, none⟩) (by go_simp)).trans (by go_simp)
  have lb7_30 : w13.heap.size < w26.heap.size := Nat.lt_of_lt_of_le (by go_simp) hb26.size
  have yb7_0_30 : w26.cell? ⟨w13.heap.size, 0, none⟩ = some (.slice VA13 (dmgR gs ts xs t rs ys).1.p.length ka13) := (hb26.cell (p := ⟨w13.heap.size, 0, none⟩) (by go_simp)).trans (by go_simp)
  have yb7_1_30 : w26.cell? ⟨w13.heap.size, 1, none⟩ = some (.slice VB13 (dmgR gs ts xs t rs ys).1.q.length kb13) := (hb26.cell (p := ⟨w13.heap.size, 1, none⟩) (by go_simp)).trans (by go_simp)
  have yb7_2_30 : w26.cell? ⟨w13.heap.size, 2, none⟩ = some (.slice VC13 (dmgR gs ts xs t rs ys).1.r.length kd13) := (hb26.cell (p := ⟨w13.heap.size, 2, none⟩) (by go_simp)).trans (by go_simp)
  have Mc25_30 := Lib.hid (Marked3.below (Marked3.below Mc25.out bk_ om_) hb26 om_)
  clear Mc25 yb7_2_29 yb7_1_29 yb7_0_29 lb7_29 yb6_0_29 lb6_29 yb5_0_29 lb5_29 yb4_3_29 yb4_2_29 yb4_1_29 yb4_0_29 lb4_29 yb3_2_29 yb3_1_29 yb3_0_29 lb3_29 yb2_0_29 lb2_29 yb1_0_29 lb1_29 yb0_3_29 yb0_2_29 yb0_1_29 yb0_0_29 lb0_29 krV4_29 kw_29 s30
  clear hb26
  have kR27 : Below w26.heap.size w26 w26 := bl_refl _
  go_wp2_with fail
  refine wp_region_fl 10 [(0, .q), (2, .q), (4, .q), (1, .g), (3, .g), (5, .g), (6, .g), (7, .q), (8, .q), (9, .p)] [(11, .b), (12, .q)] _ (Obj.cells #[.slice none 0 0, .slice none 0 0, .slice none 0 0] 58) (by kernel_rfl) (by kernel_rfl) (by kernel_rfl) (by kernel_rfl) rfl (fun a w => ⟨rfl, by unfold flPtr; go_simp⟩) ?_
  simp only [pick, List.filterMap_cons, List.filterMap_nil, List.getElem?_toArray, List.getElem?_cons_zero, List.getElem?_cons_succ, Option.map_some]
  repeat (first | ((with_reducible refine wpL_p (fun K hK => ?_)); go_simp; refine hK _ ?_; clear hK K) | ((with_reducible refine wpL_q (fun K hK => ?_)); go_simp; (first | refine hK _ ?_ | (go_bits; refine hK _ ?_) | (go_bits; go_simp; refine hK _ ?_)); clear hK K))
  with_reducible refine wpL_g rfl (fun K hK st28 w28u mv28 => ?_)
  have hu28 := mv28.below
  have fu28 := (FlAt.none (Obj.cells #[.slice none 0 0, .slice none 0 0, .slice none 0 0] 58) (World.drew _)).mv mv28
  have Hmv28 := Lib.hid mv28
  clear mv28
  have s31 : w26.heap.size ≤ w28u.heap.size := by have := hu28.size; (try simp at this); omega
  have s31H := Lib.hid s31
  have kw_31 : Below w.heap.size w w28u := bl_tr bk_ hu28
  have krV4_31 : Below w9.heap.size w9 w28u := bl_tr bk_ hu28
  have kR27_31 : Below w26.heap.size w26 w28u := bl_tr bk_ hu28
  have lb0_31 : w.heap.size < w28u.heap.size := Nat.lt_of_lt_of_le (by go_simp) hu28.size
  have yb0_0_31 : w28u.cell? ⟨w.heap.size, 0, none⟩ = some (.slice G n cg) := (hu28.cell (p := ⟨w.heap.size, 0, none⟩) (by go_simp)).trans (by go_simp)
  have yb0_1_31 : w28u.cell? ⟨w.heap.size, 1, none⟩ = some (.slice T m ct) := (hu28.cell (p := ⟨w.heap.size, 1, none⟩) (by go_simp)).trans (by go_simp)
  have yb0_2_31 : w28u.cell? ⟨w.heap.size, 2, none⟩ = some (.slice A q ca) := (hu28.cell (p := ⟨w.heap.size, 2, none⟩) (by go_simp)).trans (by go_simp)
  have yb0_3_31 : w28u.cell? ⟨w.heap.size, 3, none⟩ = some (.int .i64 t) := (hu28.cell (p := ⟨w.heap.size, 3, none⟩) (by go_simp)).trans (by go_simp)
  have lb1_31 : w.heap.size + 1 < w28u.heap.size := Nat.lt_of_lt_of_le (by go_simp) hu28.size
  have yb1_0_31 : w28u.cell? ⟨w.heap.size + 1, 0, none⟩ = some (.slice D nd cd) := (hu28.cell (p := ⟨w.heap.size + 1, 0, none⟩) (by go_simp)).trans (by go_simp)
  have lb2_31 : w.heap.size + 2 < w28u.heap.size := Nat.lt_of_lt_of_le (by go_simp) hu28.size
  have yb2_0_31 : w28u.cell? ⟨w.heap.size + 2, 0, none⟩ = some (.slice C nb cb) := (hu28.cell (p := ⟨w.heap.size + 2, 0, none⟩) (by go_simp)).trans (by go_simp)
  have lb3_31 : bF4 < w28u.heap.size := Nat.lt_of_lt_of_le (by go_simp) hu28.size
  have yb3_0_31 : w28u.cell? ⟨bF4, 0, none⟩ = some (.slice VA8 (dmgR gs ts xs t rs ys).1.p.length ka8) := (hu28.cell (p := ⟨bF4, 0, none⟩) (by go_simp)).trans (by go_simp)
  have yb3_1_31 : w28u.cell? ⟨bF4, 1, none⟩ = some (.slice VB8 (dmgR gs ts xs t rs ys).1.q.length kb8) := (hu28.cell (p := ⟨bF4, 1, none⟩) (by go_simp)).trans (by go_simp)
  have yb3_2_31 : w28u.cell? ⟨bF4, 2, none⟩ = some (.slice VC8 (dmgR gs ts xs t rs ys).1.r.length kd8) := (hu28.cell (p := ⟨bF4, 2, none⟩) (by go_simp)).trans (by go_simp)
  have lb4_31 : w10.heap.size < w28u.heap.size := Nat.lt_of_lt_of_le (by go_simp) hu28.size
  have yb4_0_31 : w28u.cell? ⟨w10.heap.size, 0, none⟩ = some (.slice G10 n n) := (hu28.cell (p := ⟨w10.heap.size, 0, none⟩) (by go_simp)).trans (by go_simp)
  have yb4_1_31 : w28u.cell? ⟨w10.heap.size, 1, none⟩ = some (.slice T10 m m) := (hu28.cell (p := ⟨w10.heap.size, 1, none⟩) (by go_simp)).trans (by go_simp)
  have yb4_2_31 : w28u.cell? ⟨w10.heap.size, 2, none⟩ = some (.slice A10 q q) := (hu28.cell (p := ⟨w10.heap.size, 2, none⟩) (by go_simp)).trans (by go_simp)
  have yb4_3_31 : w28u.cell? ⟨w10.heap.size, 3, none⟩ = some (.int .i64 t) := (hu28.cell (p := ⟨w10.heap.size, 3, none⟩) (by go_simp)).trans (by go_simp)
  have lb5_31 : w11.heap.size < w28u.heap.size := Nat.lt_of_lt_of_le (by go_simp) hu28.size
  have yb5_0_31 : w28u.cell? ⟨w11.heap.size, 0, none⟩ = some (.slice A11 nd nd) := (hu28.cell (p := ⟨w11.heap.size, 0, none⟩) (by go_simp)).trans (by go_simp)
  have lb6_31 : w12.heap.size < w28u.heap.size := Nat.lt_of_lt_of_le (by go_simp) hu28.size
  have yb6_0_31 : w28u.cell? ⟨w12.heap.size, 0, none⟩ = some (.slice A12 nb nb) := (hu28.cell (p := ⟨w12.heap.size, 0, none⟩) (by go_simp)).trans (by go_simp)
  have lb7_31 : w13.heap.size < w28u.heap.size := Nat.lt_of_lt_of_le (by go_simp) hu28.size
  have yb7_0_31 : w28u.cell? ⟨w13.heap.size, 0, none⟩ = some (.slice VA13 (dmgR gs ts xs t rs ys).1.p.length ka13) := (hu28.cell (p := ⟨w13.heap.size, 0, none⟩) (by go_simp)).trans (by go_simp)
  have yb7_1_31 : w28u.cell? ⟨w13.heap.size, 1, none⟩ = some (.slice VB13 (dmgR gs ts xs t rs ys).1.q.length kb13) := (hu28.cell (p := ⟨w13.heap.size, 1, none⟩) (by go_simp)).trans (by go_simp)
  have yb7_2_31 : w28u.cell? ⟨w13.heap.size, 2, none⟩ = some (.slice VC13 (dmgR gs ts xs t rs ys).1.r.length kd13) := (hu28.cell (p := ⟨w13.heap.size, 2, none⟩) (by go_simp)).trans (by go_simp)
  have Mc25_31 := Lib.hid (Marked3.below (Marked3.below Mc25_30.out bk_ om_) hu28 om_)
  go_simp
  refine (toSystemM_any _ _ _ _ _ _ _ _ _ gs ts xs _ _ (hG.below RGl.stable bk_) (hT.below RTi.stable bk_) (hA.below RPl.stable bk_) (by omega) (by omega) htsH.out (by omega)).mono ?_
  rintro e w28 ⟨G28, T28, A28, md28, rfl, o28, p28, z28, ms28, hb28⟩
  refine ⟨_, rfl, hb28, hK _ _ _ ?_⟩
  clear hK K
  have fd28 := fu28.below hb28
  have s32 : w28u.heap.size ≤ w28.heap.size := by have := hb28.size; (try simp at this); omega
  have s32H := Lib.hid s32
  have kw_32 : Below w.heap.size w w28 := bl_tr bk_ hb28
  have krV4_32 : Below w9.heap.size w9 w28 := bl_tr bk_ hb28
  have kR27_32 : Below w26.heap.size w26 w28 := bl_tr bk_ hb28
  have lb0_32 : w.heap.size < w28.heap.size := Nat.lt_of_lt_of_le (by go_simp) hb28.size
  have yb0_0_32 : w28.cell? ⟨w.heap.size, 0, none⟩ = some (.slice G n cg) := (hb28.cell (p := ⟨w.heap.size, 0, none⟩) (by go_simp)).trans (by go_simp)
  have yb0_1_32 : w28.cell? ⟨w.heap.size, 1, none⟩ = some (.slice T m ct) := (hb28.cell (p := ⟨w.heap.size, 1, none⟩) (by go_simp)).trans (by go_simp)
  have yb0_2_32 : w28.cell? ⟨w.heap.size, 2, none⟩ = some (.slice A q ca) := (hb28.cell (p := ⟨w.heap.size, 2, none⟩) (by go_simp)).trans (by go_simp)
  have yb0_3_32 : w28.cell? ⟨w.heap.size, 3, none⟩ = some (.int .i64 t) := (hb28.cell (p := ⟨w.heap.size, 3, none⟩) (by go_simp)).trans (by go_simp)
  have lb1_32 : w.heap.size + 1 < w28.heap.size := Nat.lt_of_lt_of_le (by go_simp) hb28.size
  have yb1_0_32 : w28.cell? ⟨w.heap.size + 1, 0, none⟩ = some (.slice D nd cd) := (hb28.cell (p := ⟨w.heap.size + 1, 0, none⟩) (by go_simp)).trans (by go_simp)
  have lb2_32 : w.heap.size + 2 < w28.heap.size := Nat.lt_of_lt_of_le (by go_simp) hb28.size
  have yb2_0_32 : w28.cell? ⟨w.heap.size + 2, 0, none⟩ = some (.slice C nb cb) := (hb28.cell (p := ⟨w.heap.size + 2, 0, none⟩) (by go_simp)).trans (by go_simp)
  have lb3_32 : bF4 < w28.heap.size := Nat.lt_of_lt_of_le (by go_simp) hb28.size
  have yb3_0_32 : w28.cell? ⟨bF4, 0, none⟩ = some (.slice VA8 (dmgR gs ts xs t rs ys).1.p.length ka8) := (hb28.cell (p := ⟨bF4, 0, none⟩) (by go_simp)).trans (by go_simp)
  have yb3_1_32 : w28.cell? ⟨bF4, 1, none⟩ = some (.slice VB8 (dmgR gs ts xs t rs ys).1.q.length kb8) := (hb28.cell (p := ⟨bF4, 1, none⟩) (by go_simp)).trans (by go_simp)
  have yb3_2_32 : w28.cell? ⟨bF4, 2, none⟩ = some (.slice VC8 (dmgR gs ts xs t rs ys).1.r.length kd8) := (hb28.cell (p := ⟨bF4, 2, none⟩) (by go_simp)).trans (by go_simp)
  have lb4_32 : w10.heap.size < w28.heap.size := Nat.lt_of_lt_of_le (by go_simp) hb28.size
  have yb4_0_32 : w28.cell? ⟨w10.heap.size, 0, none⟩ = some (.slice G10 n n) := (hb28.cell (p := ⟨w10.heap.size, 0, none⟩) (by go_simp)).trans (by go_simp)
  have yb4_1_32 : w28.cell? ⟨w10.heap.size, 1, none⟩ = some (.slice T10 m m) := (hb28.cell (p := ⟨w10.heap.size, 1, none⟩) (by go_simp)).trans (by go_simp)
  have yb4_2_32 : w28.cell? ⟨w10.heap.size, 2, none⟩ = some (.slice A10 q q) := (hb28.cell (p := ⟨w10.heap.size, 2, none⟩) (by go_simp)).trans (by go_simp)
  have yb4_3_32 : w28.cell? ⟨w10.heap.size, 3, none⟩ = some (.int .i64 t) := (hb28.cell (p := ⟨w10.heap.size, 3, none⟩) (by go_simp)).trans (by go_simp)
  have lb5_32 : w11.heap.size < w28.heap.size := Nat.lt_of_lt_of_le (by go_simp) hb28.size
  have yb5_0_32 : w28.cell? ⟨w11.heap.size, 0, none⟩ = some (.slice A11 nd nd) := (hb28.cell (p := ⟨w11.heap.size, 0, none⟩) (by go_simp)).trans (by go_simp)
  have lb6_32 : w12.heap.size < w28.heap.size := Nat.lt_of_lt_of_le (by go_simp) hb28.size
  have yb6_0_32 : w28.cell? ⟨w12.heap.size, 0, none⟩ = some (.slice A12 nb nb) := (hb28.cell (p := ⟨w12.heap.size, 0, none⟩) (by go_simp)).trans (by go_simp)
  have lb7_32 : w13.heap.size < w28.heap.size := Nat.lt_of_lt_of_le (by go_simp) hb28.size
  have yb7_0_32 : w28.cell? ⟨w13.heap.size, 0, none⟩ = some (.slice VA13 (dmgR gs ts xs t rs ys).1.p.length ka13) := (hb28.cell (p := ⟨w13.heap.size, 0, none⟩) (by go_simp)).trans (by go_simp)
  have yb7_1_32 : w28.cell? ⟨w13.heap.size, 1, none⟩ = some (.slice VB13 (dmgR gs ts xs t rs ys).1.q.length kb13) := (hb28.cell (p := ⟨w13.heap.size, 1, none⟩) (by go_simp)).trans (by go_simp)
  have yb7_2_32 : w28.cell? ⟨w13.heap.size, 2, none⟩ = some (.slice VC13 (dmgR gs ts xs t rs ys).1.r.length kd13) := (hb28.cell (p := ⟨w13.heap.size, 2, none⟩) (by go_simp)).trans (by go_simp)
  have Mc25_32 := Lib.hid (Marked3.below (Marked3.below Mc25_31.out bk_ om_) hb28 om_)
  clear hb28
  have kc28 : Below w28.heap.size w28 w28 := bl_refl _
  have o28H := Lib.hid o28
  clear o28
  have p28H := Lib.hid p28
  clear p28
  have z28H := Lib.hid z28
  clear z28
  have ms28H := Lib.hid ms28
  clear ms28
  with_reducible refine wpL_g rfl (fun K hK st29 w29u mv29 => ?_)
  have hu29 := mv29.below
  have fu29 := fd28.mv mv29
  have Hmv29 := Lib.hid mv29
  clear mv29
  have s33 : w28.heap.size ≤ w29u.heap.size := by have := hu29.size; (try simp at this); omega
  have s33H := Lib.hid s33
  have kw_33 : Below w.heap.size w w29u := bl_tr bk_ hu29
  have krV4_33 : Below w9.heap.size w9 w29u := bl_tr bk_ hu29
  have kR27_33 : Below w26.heap.size w26 w29u := bl_tr bk_ hu29
  have kc28_33 : Below w28.heap.size w28 w29u := bl_tr bk_ hu29
  have lb0_33 : w.heap.size < w29u.heap.size := Nat.lt_of_lt_of_le (by go_simp) hu29.size
  have yb0_0_33 : w29u.cell? ⟨w.heap.size, 0, none⟩ = some (.slice G n cg) := (hu29.cell (p := ⟨w.heap.size, 0, none⟩) (by go_simp)).trans (by go_simp)
  have yb0_1_33 : w29u.cell? ⟨w.heap.size, 1, none⟩ = some (.slice T m ct) := (hu29.cell (p := ⟨w.heap.size, 1, none⟩) (by go_simp)).trans (by go_simp)
  have yb0_2_33 : w29u.cell? ⟨w.heap.size, 2, none⟩ = some (.slice A q ca) := (hu29.cell (p := ⟨w.heap.size, 2, none⟩) (by go_simp)).trans (by go_simp)
  have yb0_3_33 : w29u.cell? ⟨w.heap.size, 3, none⟩ = some (.int .i64 t) := (hu29.cell (p := ⟨w.heap.size, 3, none⟩) (by go_simp)).trans (by go_simp)
  have lb1_33 : w.heap.size + 1 < w29u.heap.size := Nat.lt_of_lt_of_le (by go_simp) hu29.size
  have yb1_0_33 : w29u.cell? ⟨w.heap.size + 1, 0, none⟩ = some (.slice D nd cd) := (hu29.cell (p := ⟨w.heap.size + 1, 0, none⟩) (by go_simp)).trans (by go_simp)
  have lb2_33 : w.heap.size + 2 < w29u.heap.size := Nat.lt_of_lt_of_le (by go_simp) hu29.size
  have yb2_0_33 : w29u.cell? ⟨w.heap.size + 2, 0, none⟩ = some (.slice C nb cb) := (hu29.cell (p := ⟨w.heap.size + 2, 0, none⟩) (by go_simp)).trans (by go_simp)
  have lb3_33 : bF4 < w29u.heap.size := Nat.lt_of_lt_of_le (by go_simp) hu29.size
  have yb3_0_33 : w29u.cell? ⟨bF4, 0, none⟩ = some (.slice VA8 (dmgR gs ts xs t rs ys).1.p.length ka8) := (hu29.cell (p := ⟨bF4, 0, none⟩) (by go_simp)).trans (by go_simp)
  have yb3_1_33 : w29u.cell? ⟨bF4, 1, none⟩ = some (.slice VB8 (dmgR gs ts xs t rs ys).1.q.length kb8) := (hu29.cell (p := ⟨bF4, 1, none⟩) (by go_simp)).trans (by go_simp)
  have yb3_2_33 : w29u.cell? ⟨bF4, 2, none⟩ = some (.slice VC8 (dmgR gs ts xs t rs ys).1.r.length kd8) := (hu29.cell (p := ⟨bF4, 2, none⟩) (by go_simp)).trans (by go_simp)
  have lb4_33 : w10.heap.size < w29u.heap.size := Nat.lt_of_lt_of_le (by go_simp) hu29.size
  have yb4_0_33 : w29u.cell? ⟨w10.heap.size, 0, none⟩ = some (.slice G10 n n) := (hu29.cell (p := ⟨w10.heap.size, 0, none⟩) (by go_simp)).trans (by go_simp)
  have yb4_1_33 : w29u.cell? ⟨w10.heap.size, 1, none⟩ = some (.slice T10 m m) := (hu29.cell (p := ⟨w10.heap.size, 1, none⟩) (by go_simp)).trans (by go_simp)
  have yb4_2_33 : w29u.cell? ⟨w10.heap.size, 2, none⟩ = some (.slice A10 q q) := (hu29.cell (p := ⟨w10.heap.size, 2, none⟩) (by go_simp)).trans (by go_simp)
  have yb4_3_33 : w29u.cell? ⟨w10.heap.size, 3, none⟩ = some (.int .i64 t) := (hu29.cell (p := ⟨w10.heap.size, 3, none⟩) (by go_simp)).trans (by go_simp)
  have lb5_33 : w11.heap.size < w29u.heap.size := Nat.lt_of_lt_of_le (by go_simp) hu29.size
  have yb5_0_33 : w29u.cell? ⟨w11.heap.size, 0, none⟩ = some (.slice A11 nd nd) := (hu29.cell (p := ⟨w11.heap.size, 0, none⟩) (by go_simp)).trans (by go_simp)
  have lb6_33 : w12.heap.size < w29u.heap.size := Nat.lt_of_lt_of_le (by go_simp) hu29.size
  have yb6_0_33 : w29u.cell? ⟨w12.heap.size, 0, none⟩ = some (.slice A12 nb nb) := (hu29.cell (p := ⟨w12.heap.size, 0, none⟩) (by go_simp)).trans (by go_simp)
  have lb7_33 : w13.heap.size < w29u.heap.size := Nat.lt_of_lt_of_le (by go_simp) hu29.size
  have yb7_0_33 : w29u.cell? ⟨w13.heap.size, 0, none⟩ = some (.slice VA13 (dmgR gs ts xs t rs ys).1.p.length ka13) := (hu29.cell (p := ⟨w13.heap.size, 0, none⟩) (by go_simp)).trans (by go_simp)
  have yb7_1_33 : w29u.cell? ⟨w13.heap.size, 1, none⟩ = some (.slice VB13 (dmgR gs ts xs t rs ys).1.q.length kb13) := (hu29.cell (p := ⟨w13.heap.size, 1, none⟩) (by go_simp)).trans (by go_simp)
  have yb7_2_33 : w29u.cell? ⟨w13.heap.size, 2, none⟩ = some (.slice VC13 (dmgR gs ts xs t rs ys).1.r.length kd13) := (hu29.cell (p := ⟨w13.heap.size, 2, none⟩) (by go_simp)).trans (by go_simp)
  have Mc25_33 := Lib.hid (Marked3.below (Marked3.below Mc25_32.out bk_ om_) hu29 om_)
  go_simp
  refine (toAssembly_any _ _ _ rs _ (hD.below RPl.stable bk_) (by omega)).mono ?_
  rintro e w29 ⟨A29, rfl, o29, hb29⟩
  refine ⟨_, rfl, hb29, hK _ _ _ ?_⟩
  clear hK K
  have fd29 := fu29.below hb29
  have s34 : w29u.heap.size ≤ w29.heap.size := by have := hb29.size; (try simp at this); omega
  have s34H := Lib.hid s34
  have kw_34 : Below w.heap.size w w29 := bl_tr bk_ hb29
  have krV4_34 : Below w9.heap.size w9 w29 := bl_tr bk_ hb29
  have kR27_34 : Below w26.heap.size w26 w29 := bl_tr bk_ hb29
  have kc28_34 : Below w28.heap.size w28 w29 := bl_tr bk_ hb29
  have lb0_34 : w.heap.size < w29.heap.size := Nat.lt_of_lt_of_le (by go_simp) hb29.size
  have yb0_0_34 : w29.cell? ⟨w.heap.size, 0, none⟩ = some (.slice G n cg) := (hb29.cell (p := ⟨w.heap.size, 0, none⟩) (by go_simp)).trans (by go_simp)
  have yb0_1_34 : w29.cell? ⟨w.heap.size, 1, none⟩ = some (.slice T m ct) := (hb29.cell (p := ⟨w.heap.size, 1, none⟩) (by go_simp)).trans (by go_simp)
  have yb0_2_34 : w29.cell? ⟨w.heap.size, 2, none⟩ = some (.slice A q ca) := (hb29.cell (p := ⟨w.heap.size, 2, none⟩) (by go_simp)).trans (by go_simp)
  have yb0_3_34 : w29.cell? ⟨w.heap.size, 3, none⟩ = some (.int .i64 t) := (hb29.cell (p := ⟨w.heap.size, 3, none⟩) (by go_simp)).trans (by go_simp)
  have lb1_34 : w.heap.size + 1 < w29.heap.size := Nat.lt_of_lt_of_le (by go_simp) hb29.size
  have yb1_0_34 : w29.cell? ⟨w.heap.size + 1, 0, none⟩ = some (.slice D nd cd) := (hb29.cell (p := ⟨w.heap.size + 1, 0, none⟩) (by go_simp)).trans (by go_simp)
  have lb2_34 : w.heap.size + 2 < w29.heap.size := Nat.lt_of_lt_of_le (by go_simp) hb29.size
  have yb2_0_34 : w29.cell? ⟨w.heap.size + 2, 0, none⟩ = some (.slice C nb cb) := (hb29.cell (p := ⟨w.heap.size + 2, 0, none⟩) (by go_simp)).trans (by go_simp)
  have lb3_34 : bF4 < w29.heap.size := Nat.lt_of_lt_of_le (by go_simp) hb29.size
  have yb3_0_34 : w29.cell? ⟨bF4, 0, none⟩ = some (.slice VA8 (dmgR gs ts xs t rs ys).1.p.length ka8) := (hb29.cell (p := ⟨bF4, 0, none⟩) (by go_simp)).trans (by go_simp)
  have yb3_1_34 : w29.cell? ⟨bF4, 1, none⟩ = some (.slice VB8 (dmgR gs ts xs t rs ys).1.q.length kb8) := (hb29.cell (p := ⟨bF4, 1, none⟩) (by go_simp)).trans (by go_simp)
  have yb3_2_34 : w29.cell? ⟨bF4, 2, none⟩ = some (.slice VC8 (dmgR gs ts xs t rs ys).1.r.length kd8) := (hb29.cell (p := ⟨bF4, 2, none⟩) (by go_simp)).trans (by go_simp)
  have lb4_34 : w10.heap.size < w29.heap.size := Nat.lt_of_lt_of_le (by go_simp) hb29.size
  have yb4_0_34 : w29.cell? ⟨w10.heap.size, 0, none⟩ = some (.slice G10 n n) := (hb29.cell (p := ⟨w10.heap.size, 0, none⟩) (by go_simp)).trans (by go_simp)
  have yb4_1_34 : w29.cell? ⟨w10.heap.size, 1, none⟩ = some (.slice T10 m m) := (hb29.cell (p := ⟨w10.heap.size, 1, none⟩) (by go_simp)).trans (by go_simp)
  have yb4_2_34 : w29.cell? ⟨w10.heap.size, 2, none⟩ = some (.slice A10 q q) := (hb29.cell (p := ⟨w10.heap.size, 2, none⟩) (by go_simp)).trans (by go_simp)
  have yb4_3_34 : w29.cell? ⟨w10.heap.size, 3, none⟩ = some (.int .i64 t) := (hb29.cell (p := ⟨w10.heap.size, 3, none⟩) (by go_simp)).trans (by go_simp)
  have lb5_34 : w11.heap.size < w29.heap.size := Nat.lt_of_lt_of_le (by go_simp) hb29.size
  have yb5_0_34 : w29.cell? ⟨w11.heap.size, 0, none⟩ = some (.slice A11 nd nd) := (hb29.cell (p := ⟨w11.heap.size, 0, none⟩) (by go_simp)).trans (by go_simp)
  have lb6_34 : w12.heap.size < w29.heap.size := Nat.lt_of_lt_of_le (by go_simp) hb29.size
  have yb6_0_34 : w29.cell? ⟨w12.heap.size, 0, none⟩ = some (.slice A12 nb nb) := (hb29.cell (p := ⟨w12.heap.size, 0, none⟩) (by go_simp)).trans (by go_simp)
  have lb7_34 : w13.heap.size < w29.heap.size := Nat.lt_of_lt_of_le (by go_simp) hb29.size
  have yb7_0_34 : w29.cell? ⟨w13.heap.size, 0, none⟩ = some (.slice VA13 (dmgR gs ts xs t rs ys).1.p.length ka13) := (hb29.cell (p := ⟨w13.heap.size, 0, none⟩) (by go_simp)).trans (by go_simp)
  have yb7_1_34 : w29.cell? ⟨w13.heap.size, 1, none⟩ = some (.slice VB13 (dmgR gs ts xs t rs ys).1.q.length kb13) := (hb29.cell (p := ⟨w13.heap.size, 1, none⟩) (by go_simp)).trans (by go_simp)
  have yb7_2_34 : w29.cell? ⟨w13.heap.size, 2, none⟩ = some (.slice VC13 (dmgR gs ts xs t rs ys).1.r.length kd13) := (hb29.cell (p := ⟨w13.heap.size, 2, none⟩) (by go_simp)).trans (by go_simp)
  have Mc25_34 := Lib.hid (Marked3.below (Marked3.below Mc25_33.out bk_ om_) hb29 om_)
  clear hb29
  have kc29 : Below w29.heap.size w29 w29 := bl_refl _
  have o29H := Lib.hid o29
  clear o29
  with_reducible refine wpL_g rfl (fun K hK st30 w30u mv30 => ?_)
  have hu30 := mv30.below
  have fu30 := fd29.mv mv30
  have Hmv30 := Lib.hid mv30
  clear mv30
  have s35 : w29.heap.size ≤ w30u.heap.size := by have := hu30.size; (try simp at this); omega
  have s35H := Lib.hid s35
  have kw_35 : Below w.heap.size w w30u := bl_tr bk_ hu30
  have krV4_35 : Below w9.heap.size w9 w30u := bl_tr bk_ hu30
  have kR27_35 : Below w26.heap.size w26 w30u := bl_tr bk_ hu30
  have kc28_35 : Below w28.heap.size w28 w30u := bl_tr bk_ hu30
  have kc29_35 : Below w29.heap.size w29 w30u := bl_tr bk_ hu30
  have lb0_35 : w.heap.size < w30u.heap.size := Nat.lt_of_lt_of_le (by go_simp) hu30.size
  have yb0_0_35 : w30u.cell? ⟨w.heap.size, 0, none⟩ = some (.slice G n cg) := (hu30.cell (p := ⟨w.heap.size, 0, none⟩) (by go_simp)).trans (by go_simp)
  have yb0_1_35 : w30u.cell? ⟨w.heap.size, 1, none⟩ = some (.slice T m ct) := (hu30.cell (p := ⟨w.heap.size, 1, none⟩) (by go_simp)).trans (by go_simp)
  have yb0_2_35 : w30u.cell? ⟨w.heap.size, 2, none⟩ = some (.slice A q ca) := (hu30.cell (p := ⟨w.heap.size, 2, none⟩) (by go_simp)).trans (by go_simp)
  have yb0_3_35 : w30u.cell? ⟨w.heap.size, 3, none⟩ = some (.int .i64 t) := (hu30.cell (p := ⟨w.heap.size, 3, none⟩) (by go_simp)).trans (by go_simp)
  have lb1_35 : w.heap.size + 1 < w30u.heap.size := Nat.lt_of_lt_of_le (by go_simp) hu30.size
  have yb1_0_35 : w30u.cell? ⟨w.heap.size + 1, 0, none⟩ = some (.slice D nd cd) := (hu30.cell (p := ⟨w.heap.size + 1, 0, none⟩) (by go_simp)).trans (by go_simp)
  have lb2_35 : w.heap.size + 2 < w30u.heap.size := Nat.lt_of_lt_of_le (by go_simp) hu30.size
  have yb2_0_35 : w30u.cell? ⟨w.heap.size + 2, 0, none⟩ = some (.slice C nb cb) := (hu30.cell (p := ⟨w.heap.size + 2, 0, none⟩) (by go_simp)).trans (by go_simp)
  have lb3_35 : bF4 < w30u.heap.size := Nat.lt_of_lt_of_le (by go_simp) hu30.size
  have yb3_0_35 : w30u.cell? ⟨bF4, 0, none⟩ = some (.slice VA8 (dmgR gs ts xs t rs ys).1.p.length ka8) := (hu30.cell (p := ⟨bF4, 0, none⟩) (by go_simp)).trans (by go_simp)
  have yb3_1_35 : w30u.cell? ⟨bF4, 1, none⟩ = some (.slice VB8 (dmgR gs ts xs t rs ys).1.q.length kb8) := (hu30.cell (p := ⟨bF4, 1, none⟩) (by go_simp)).trans (by go_simp)
  have yb3_2_35 : w30u.cell? ⟨bF4, 2, none⟩ = some (.slice VC8 (dmgR gs ts xs t rs ys).1.r.length kd8) := (hu30.cell (p := ⟨bF4, 2, none⟩) (by go_simp)).trans (by go_simp)
  have lb4_35 : w10.heap.size < w30u.heap.size := Nat.lt_of_lt_of_le (by go_simp) hu30.size
  have yb4_0_35 : w30u.cell? ⟨w10.heap.size, 0, none⟩ = some (.slice G10 n n) := (hu30.cell (p := ⟨w10.heap.size, 0, none⟩) (by go_simp)).trans (by go_simp)
  have yb4_1_35 : w30u.cell? ⟨w10.heap.size, 1, none⟩ = some (.slice T10 m m) := (hu30.cell (p := ⟨w10.heap.size, 1, none⟩) (by go_simp)).trans (by go_simp)
  have yb4_2_35 : w30u.cell? ⟨w10.heap.size, 2, none⟩ = some (.slice A10 q q) := (hu30.cell (p := ⟨w10.heap.size, 2, none⟩) (by go_simp)).trans (by go_simp)
  have yb4_3_35 : w30u.cell? ⟨w10.heap.size, 3, none⟩ = some (.int .i64 t) := (hu30.cell (p := ⟨w10.heap.size, 3, none⟩) (by go_simp)).trans (by go_simp)
  have lb5_35 : w11.heap.size < w30u.heap.size := Nat.lt_of_lt_of_le (by go_simp) hu30.size
  have yb5_0_35 : w30u.cell? ⟨w11.heap.size, 0, none⟩ = some (.slice A11 nd nd) := (hu30.cell (p := ⟨w11.heap.size, 0, none⟩) (by go_simp)).trans (by go_simp)
  have lb6_35 : w12.heap.size < w30u.heap.size := Nat.lt_of_lt_of_le (by go_simp) hu30.size
  have yb6_0_35 : w30u.cell? ⟨w12.heap.size, 0, none⟩ = some (.slice A12 nb nb) := (hu30.cell (p := ⟨w12.heap.size, 0, none⟩) (by go_simp)).trans (by go_simp)
  have lb7_35 : w13.heap.size < w30u.heap.size := Nat.lt_of_lt_of_le (by go_simp) hu30.size
  have yb7_0_35 : w30u.cell? ⟨w13.heap.size, 0, none⟩ = some (.slice VA13 (dmgR gs ts xs t rs ys).1.p.length ka13) := (hu30.cell (p := ⟨w13.heap.size, 0, none⟩) (by go_simp)).trans (by go_simp)
  have yb7_1_35 : w30u.cell? ⟨w13.heap.size, 1, none⟩ = some (.slice VB13 (dmgR gs ts xs t rs ys).1.q.length kb13) := (hu30.cell (p := ⟨w13.heap.size, 1, none⟩) (by go_simp)).trans (by go_simp)
  have yb7_2_35 : w30u.cell? ⟨w13.heap.size, 2, none⟩ = some (.slice VC13 (dmgR gs ts xs t rs ys).1.r.length kd13) := (hu30.cell (p := ⟨w13.heap.size, 2, none⟩) (by go_simp)).trans (by go_simp)
  have Mc25_35 := Lib.hid (Marked3.below (Marked3.below Mc25_34.out bk_ om_) hu30 om_)
  go_simp
  refine (toAssembly_any _ _ _ ys _ (hC.below RPl.stable bk_) (by omega)).mono ?_
  rintro e w30 ⟨A30, rfl, o30, hb30⟩
  refine ⟨_, rfl, hb30, hK _ _ _ ?_⟩
  clear hK K
  have fd30 := fu30.below hb30
  have s36 : w30u.heap.size ≤ w30.heap.size := by have := hb30.size; (try simp at this); omega
  have s36H := Lib.hid s36
  have kw_36 : Below w.heap.size w w30 := bl_tr bk_ hb30
  have krV4_36 : Below w9.heap.size w9 w30 := bl_tr bk_ hb30
  have kR27_36 : Below w26.heap.size w26 w30 := bl_tr bk_ hb30
  have kc28_36 : Below w28.heap.size w28 w30 := bl_tr bk_ hb30
  have kc29_36 : Below w29.heap.size w29 w30 := bl_tr bk_ hb30
  have lb0_36 : w.heap.size < w30.heap.size := Nat.lt_of_lt_of_le (by go_simp) hb30.size
  have yb0_0_36 : w30.cell? ⟨w.heap.size, 0, none⟩ = some (.slice G n cg) := (hb30.cell (p := ⟨w.heap.size, 0, none⟩) (by go_simp)).trans (by go_simp)
  have yb0_1_36 : w30.cell? ⟨w.heap.size, 1, none⟩ = some (.slice T m ct) := (hb30.cell (p := ⟨w.heap.size, 1, none⟩) (by go_simp)).trans (by go_simp)
  have yb0_2_36 : w30.cell? ⟨w.heap.size, 2, none⟩ = some (.slice A q ca) := (hb30.cell (p := ⟨w.heap.size, 2, none⟩) (by go_simp)).trans (by go_simp)
  have yb0_3_36 : w30.cell? ⟨w.heap.size, 3, none⟩ = some (.int .i64 t) := (hb30.cell (p := ⟨w.heap.size, 3, none⟩) (by go_simp)).trans (by go_simp)
  have lb1_36 : w.heap.size + 1 < w30.heap.size := Nat.lt_of_lt_of_le (by go_simp) hb30.size
  have yb1_0_36 : w30.cell? ⟨w.heap.size + 1, 0, none⟩ = some (.slice D nd cd) := (hb30.cell (p := ⟨w.heap.size + 1, 0, none⟩) (by go_simp)).trans (by go_simp)
  have lb2_36 : w.heap.size + 2 < w30.heap.size := Nat.lt_of_lt_of_le (by go_simp) hb30.size
  have yb2_0_36 : w30.cell? ⟨w.heap.size + 2, 0, none⟩ = some (.slice C nb cb) := (hb30.cell (p := ⟨w.heap.size + 2, 0, none⟩) (by go_simp)).trans (by go_simp)
  have lb3_36 : bF4 < w30.heap.size := Nat.lt_of_lt_of_le (by go_simp) hb30.size
  have yb3_0_36 : w30.cell? ⟨bF4, 0, none⟩ = some (.slice VA8 (dmgR gs ts xs t rs ys).1.p.length ka8) := (hb30.cell (p := ⟨bF4, 0, none⟩) (by go_simp)).trans (by go_simp)
  have yb3_1_36 : w30.cell? ⟨bF4, 1, none⟩ = some (.slice VB8 (dmgR gs ts xs t rs ys).1.q.length kb8) := (hb30.cell (p := ⟨bF4, 1, none⟩) (by go_simp)).trans (by go_simp)
  have yb3_2_36 : w30.cell? ⟨bF4, 2, none⟩ = some (.slice VC8 (dmgR gs ts xs t rs ys).1.r.length kd8) := (hb30.cell (p := ⟨bF4, 2, none⟩) (by go_simp)).trans (by go_simp)
  have lb4_36 : w10.heap.size < w30.heap.size := Nat.lt_of_lt_of_le (by go_simp) hb30.size
  have yb4_0_36 : w30.cell? ⟨w10.heap.size, 0, none⟩ = some (.slice G10 n n) := (hb30.cell (p := ⟨w10.heap.size, 0, none⟩) (by go_simp)).trans (by go_simp)
  have yb4_1_36 : w30.cell? ⟨w10.heap.size, 1, none⟩ = some (.slice T10 m m) := (hb30.cell (p := ⟨w10.heap.size, 1, none⟩) (by go_simp)).trans (by go_simp)
  have yb4_2_36 : w30.cell? ⟨w10.heap.size, 2, none⟩ = some (.slice A10 q q) := (hb30.cell (p := ⟨w10.heap.size, 2, none⟩) (by go_simp)).trans (by go_simp)
  have yb4_3_36 : w30.cell? ⟨w10.heap.size, 3, none⟩ = some (.int .i64 t) := (hb30.cell (p := ⟨w10.heap.size, 3, none⟩) (by go_simp)).trans (by go_simp)
  have lb5_36 : w11.heap.size < w30.heap.size := Nat.lt_of_lt_of_le (by go_simp) hb30.size
  have yb5_0_36 : w30.cell? ⟨w11.heap.size, 0, none⟩ = some (.slice A11 nd nd) := (hb30.cell (p := ⟨w11.heap.size, 0, none⟩) (by go_simp)).trans (by go_simp)
  have lb6_36 : w12.heap.size < w30.heap.size := Nat.lt_of_lt_of_le (by go_simp) hb30.size
  have yb6_0_36 : w30.cell? ⟨w12.heap.size, 0, none⟩ = some (.slice A12 nb nb) := (hb30.cell (p := ⟨w12.heap.size, 0, none⟩) (by go_simp)).trans (by go_simp)
  have lb7_36 : w13.heap.size < w30.heap.size := Nat.lt_of_lt_of_le (by go_simp) hb30.size
  have yb7_0_36 : w30.cell? ⟨w13.heap.size, 0, none⟩ = some (.slice VA13 (dmgR gs ts xs t rs ys).1.p.length ka13) := (hb30.cell (p := ⟨w13.heap.size, 0, none⟩) (by go_simp)).trans (by go_simp)
  have yb7_1_36 : w30.cell? ⟨w13.heap.size, 1, none⟩ = some (.slice VB13 (dmgR gs ts xs t rs ys).1.q.length kb13) := (hb30.cell (p := ⟨w13.heap.size, 1, none⟩) (by go_simp)).trans (by go_simp)
  have yb7_2_36 : w30.cell? ⟨w13.heap.size, 2, none⟩ = some (.slice VC13 (dmgR gs ts xs t rs ys).1.r.length kd13) := (hb30.cell (p := ⟨w13.heap.size, 2, none⟩) (by go_simp)).trans (by go_simp)
  have Mc25_36 := Lib.hid (Marked3.below (Marked3.below Mc25_35.out bk_ om_) hb30 om_)
  clear hb30
  have kc30 : Below w30.heap.size w30 w30 := bl_refl _
  have o30H := Lib.hid o30
  clear o30
  with_reducible refine wpL_g rfl (fun K hK st31 w31u mv31 => ?_)
  have hu31 := mv31.below
  have fu31 := fd30.mv mv31
  have Hmv31 := Lib.hid mv31
  clear mv31
  have s37 : w30.heap.size ≤ w31u.heap.size := by have := hu31.size; (try simp at this); omega
  have s37H := Lib.hid s37
  have kw_37 : Below w.heap.size w w31u := bl_tr bk_ hu31
  have krV4_37 : Below w9.heap.size w9 w31u := bl_tr bk_ hu31
  have kR27_37 : Below w26.heap.size w26 w31u := bl_tr bk_ hu31
  have kc28_37 : Below w28.heap.size w28 w31u := bl_tr bk_ hu31
  have kc29_37 : Below w29.heap.size w29 w31u := bl_tr bk_ hu31
  have kc30_37 : Below w30.heap.size w30 w31u := bl_tr bk_ hu31
  have lb0_37 : w.heap.size < w31u.heap.size := Nat.lt_of_lt_of_le (by go_simp) hu31.size
  have yb0_0_37 : w31u.cell? ⟨w.heap.size, 0, none⟩ = some (.slice G n cg) := (hu31.cell (p := ⟨w.heap.size, 0, none⟩) (by go_simp)).trans (by go_simp)
  have yb0_1_37 : w31u.cell? ⟨w.heap.size, 1, none⟩ = some (.slice T m ct) := (hu31.cell (p := ⟨w.heap.size, 1, none⟩) (by go_simp)).trans (by go_simp)
  have yb0_2_37 : w31u.cell? ⟨w.heap.size, 2, none⟩ = some (.slice A q ca) := (hu31.cell (p := ⟨w.heap.size, 2, none⟩) (by go_simp)).trans (by go_simp)
  have yb0_3_37 : w31u.cell? ⟨w.heap.size, 3, none⟩ = some (.int .i64 t) := (hu31.cell (p := ⟨w.heap.size, 3, none⟩) (by go_simp)).trans (by go_simp)
  have lb1_37 : w.heap.size + 1 < w31u.heap.size := Nat.lt_of_lt_of_le (by go_simp) hu31.size
  have yb1_0_37 : w31u.cell? ⟨w.heap.size + 1, 0, none⟩ = some (.slice D nd cd) := (hu31.cell (p := ⟨w.heap.size + 1, 0, none⟩) (by go_simp)).trans (by go_simp)
  have lb2_37 : w.heap.size + 2 < w31u.heap.size := Nat.lt_of_lt_of_le (by go_simp) hu31.size
  have yb2_0_37 : w31u.cell? ⟨w.heap.size + 2, 0, none⟩ = some (.slice C nb cb) := (hu31.cell (p := ⟨w.heap.size + 2, 0, none⟩) (by go_simp)).trans (by go_simp)
  have lb3_37 : bF4 < w31u.heap.size := Nat.lt_of_lt_of_le (by go_simp) hu31.size
  have yb3_0_37 : w31u.cell? ⟨bF4, 0, none⟩ = some (.slice VA8 (dmgR gs ts xs t rs ys).1.p.length ka8) := (hu31.cell (p := ⟨bF4, 0, none⟩) (by go_simp)).trans (by go_simp)
  have yb3_1_37 : w31u.cell? ⟨bF4, 1, none⟩ = some (.slice VB8 (dmgR gs ts xs t rs ys).1.q.length kb8) := (hu31.cell (p := ⟨bF4, 1, none⟩) (by go_simp)).trans (by go_simp)
  have yb3_2_37 : w31u.cell? ⟨bF4, 2, none⟩ = some (.slice VC8 (dmgR gs ts xs t rs ys).1.r.length kd8) := (hu31.cell (p := ⟨bF4, 2, none⟩) (by go_simp)).trans (by go_simp)
  have lb4_37 : w10.heap.size < w31u.heap.size := Nat.lt_of_lt_of_le (by go_simp) hu31.size
  have yb4_0_37 : w31u.cell? ⟨w10.heap.size, 0, none⟩ = some (.slice G10 n n) := (hu31.cell (p := ⟨w10.heap.size, 0, none⟩) (by go_simp)).trans (by go_simp)
  have yb4_1_37 : w31u.cell? ⟨w10.heap.size, 1, none⟩ = some (.slice T10 m m) := (hu31.cell (p := ⟨w10.heap.size, 1, none⟩) (by go_simp)).trans (by go_simp)
  have yb4_2_37 : w31u.cell? ⟨w10.heap.size, 2, none⟩ = some (.slice A10 q q) := (hu31.cell (p := ⟨w10.heap.size, 2, none⟩) (by go_simp)).trans (by go_simp)
  have yb4_3_37 : w31u.cell? ⟨w10.heap.size, 3, none⟩ = some (.int .i64 t) := (hu31.cell (p := ⟨w10.heap.size, 3, none⟩) (by go_simp)).trans (by go_simp)
  have lb5_37 : w11.heap.size < w31u.heap.size := Nat.lt_of_lt_of_le (by go_simp) hu31.size
  have yb5_0_37 : w31u.cell? ⟨w11.heap.size, 0, none⟩ = some (.slice A11 nd nd) := (hu31.cell (p := ⟨w11.heap.size, 0, none⟩) (by go_simp)).trans (by go_simp)
  have lb6_37 : w12.heap.size < w31u.heap.size := Nat.lt_of_lt_of_le (by go_simp) hu31.size
  have yb6_0_37 : w31u.cell? ⟨w12.heap.size, 0, none⟩ = some (.slice A12 nb nb) := (hu31.cell (p := ⟨w12.heap.size, 0, none⟩) (by go_simp)).trans (by go_simp)
  have lb7_37 : w13.heap.size < w31u.heap.size := Nat.lt_of_lt_of_le (by go_simp) hu31.size
  have yb7_0_37 : w31u.cell? ⟨w13.heap.size, 0, none⟩ = some (.slice VA13 (dmgR gs ts xs t rs ys).1.p.length ka13) := (hu31.cell (p := ⟨w13.heap.size, 0, none⟩) (by go_simp)).trans (by go_simp)
  have yb7_1_37 : w31u.cell? ⟨w13.heap.size, 1, none⟩ = some (.slice VB13 (dmgR gs ts xs t rs ys).1.q.length kb13) := (hu31.cell (p := ⟨w13.heap.size, 1, none⟩) (by go_simp)).trans (by go_simp)
  have yb7_2_37 : w31u.cell? ⟨w13.heap.size, 2, none⟩ = some (.slice VC13 (dmgR gs ts xs t rs ys).1.r.length kd13) := (hu31.cell (p := ⟨w13.heap.size, 2, none⟩) (by go_simp)).trans (by go_simp)
  have Mc25_37 := Lib.hid (Marked3.below (Marked3.below Mc25_36.out bk_ om_) hu31 om_)
  go_simp
  refine (DamageOf_any _ _ _ _ _ _ _ _ _ _ _ _ _ _ _ gs ts xs rs ys _ _ ⟨o28H.out.rd.below RGl.stable bk_, p28H.out.rdTi.below RTi.stable bk_, z28H.out.rd.below RPl.stable bk_, by omega, by omega, by omega, hgk.out, htk.out⟩ ⟨o28H.out.rd.below RGl.stable bk_, p28H.out.rdTi.below RTi.stable bk_, o29H.out.rd.below RPl.stable bk_, by omega, by omega, by omega, hgk.out, htk.out⟩ ⟨o28H.out.rd.below RGl.stable bk_, p28H.out.rdTi.below RTi.stable bk_, o30H.out.rd.below RPl.stable bk_, by omega, by omega, by omega, hgk.out, htk.out⟩).mono ?_
  rintro e w31 ⟨VA31, VB31, VC31, ka31, kb31, kd31, rfl, v31, hb31⟩
  refine ⟨_, rfl, hb31, hK _ _ _ ?_⟩
  clear hK K
  have fd31 := fu31.below hb31
  have s38 : w31u.heap.size ≤ w31.heap.size := by have := hb31.size; (try simp at this); omega
  have s38H := Lib.hid s38
  have kw_38 : Below w.heap.size w w31 := bl_tr bk_ hb31
  have krV4_38 : Below w9.heap.size w9 w31 := bl_tr bk_ hb31
  have kR27_38 : Below w26.heap.size w26 w31 := bl_tr bk_ hb31
  have kc28_38 : Below w28.heap.size w28 w31 := bl_tr bk_ hb31
  have kc29_38 : Below w29.heap.size w29 w31 := bl_tr bk_ hb31
  have kc30_38 : Below w30.heap.size w30 w31 := bl_tr bk_ hb31
  have lb0_38 : w.heap.size < w31.heap.size := Nat.lt_of_lt_of_le (by go_simp) hb31.size
  have yb0_0_38 : w31.cell? ⟨w.heap.size, 0, none⟩ = some (.slice G n cg) := (hb31.cell (p := ⟨w.heap.size, 0, none⟩) (by go_simp)).trans (by go_simp)
  have yb0_1_38 : w31.cell? ⟨w.heap.size, 1, none⟩ = some (.slice T m ct) := (hb31.cell (p := ⟨w.heap.size, 1, none⟩) (by go_simp)).trans (by go_simp)
  have yb0_2_38 : w31.cell? ⟨w.heap.size, 2, none⟩ = some (.slice A q ca) := (hb31.cell (p := ⟨w.heap.size, 2, none⟩) (by go_simp)).trans (by go_simp)
  have yb0_3_38 : w31.cell? ⟨w.heap.size, 3, none⟩ = some (.int .i64 t) := (hb31.cell (p := ⟨w.heap.size, 3, none⟩) (by go_simp)).trans (by go_simp)
  have lb1_38 : w.heap.size + 1 < w31.heap.size := Nat.lt_of_lt_of_le (by go_simp) hb31.size
  have yb1_0_38 : w31.cell? ⟨w.heap.size + 1, 0, none⟩ = some (.slice D nd cd) := (hb31.cell (p := ⟨w.heap.size + 1, 0, none⟩) (by go_simp)).trans (by go_simp)
  have lb2_38 : w.heap.size + 2 < w31.heap.size := Nat.lt_of_lt_of_le (by go_simp) hb31.size
  have yb2_0_38 : w31.cell? ⟨w.heap.size + 2, 0, none⟩ = some (.slice C nb cb) := (hb31.cell (p := ⟨w.heap.size + 2, 0, none⟩) (by go_simp)).trans (by go_simp)
  have lb3_38 : bF4 < w31.heap.size := Nat.lt_of_lt_of_le (by go_simp) hb31.size
  have yb3_0_38 : w31.cell? ⟨bF4, 0, none⟩ = some (.slice VA8 (dmgR gs ts xs t rs ys).1.p.length ka8) := (hb31.cell (p := ⟨bF4, 0, none⟩) (by go_simp)).trans (by go_simp)
  have yb3_1_38 : w31.cell? ⟨bF4, 1, none⟩ = some (.slice VB8 (dmgR gs ts xs t rs ys).1.q.length kb8) := (hb31.cell (p := ⟨bF4, 1, none⟩) (by go_simp)).trans (by go_simp)
  have yb3_2_38 : w31.cell? ⟨bF4, 2, none⟩ = some (.slice VC8 (dmgR gs ts xs t rs ys).1.r.length kd8) := (hb31.cell (p := ⟨bF4, 2, none⟩) (by go_simp)).trans (by go_simp)
  have lb4_38 : w10.heap.size < w31.heap.size := Nat.lt_of_lt_of_le (by go_simp) hb31.size
  have yb4_0_38 : w31.cell? ⟨w10.heap.size, 0, none⟩ = some (.slice G10 n n) := (hb31.cell (p := ⟨w10.heap.size, 0, none⟩) (by go_simp)).trans (by go_simp)
  have yb4_1_38 : w31.cell? ⟨w10.heap.size, 1, none⟩ = some (.slice T10 m m) := (hb31.cell (p := ⟨w10.heap.size, 1, none⟩) (by go_simp)).trans (by go_simp)
  have yb4_2_38 : w31.cell? ⟨w10.heap.size, 2, none⟩ = some (.slice A10 q q) := (hb31.cell (p := ⟨w10.heap.size, 2, none⟩) (by go_simp)).trans (by go_simp)
  have yb4_3_38 : w31.cell? ⟨w10.heap.size, 3, none⟩ = some (.int .i64 t) := (hb31.cell (p := ⟨w10.heap.size, 3, none⟩) (by go_simp)).trans (by go_simp)
  have lb5_38 : w11.heap.size < w31.heap.size := Nat.lt_of_lt_of_le (by go_simp) hb31.size
  have yb5_0_38 : w31.cell? ⟨w11.heap.size, 0, none⟩ = some (.slice A11 nd nd) := (hb31.cell (p := ⟨w11.heap.size, 0, none⟩) (by go_simp)).trans (by go_simp)
  have lb6_38 : w12.heap.size < w31.heap.size := Nat.lt_of_lt_of_le (by go_simp) hb31.size
  have yb6_0_38 : w31.cell? ⟨w12.heap.size, 0, none⟩ = some (.slice A12 nb nb) := (hb31.cell (p := ⟨w12.heap.size, 0, none⟩) (by go_simp)).trans (by go_simp)
  have lb7_38 : w13.heap.size < w31.heap.size := Nat.lt_of_lt_of_le (by go_simp) hb31.size
  have yb7_0_38 : w31.cell? ⟨w13.heap.size, 0, none⟩ = some (.slice VA13 (dmgR gs ts xs t rs ys).1.p.length ka13) := (hb31.cell (p := ⟨w13.heap.size, 0, none⟩) (by go_simp)).trans (by go_simp)
  have yb7_1_38 : w31.cell? ⟨w13.heap.size, 1, none⟩ = some (.slice VB13 (dmgR gs ts xs t rs ys).1.q.length kb13) := (hb31.cell (p := ⟨w13.heap.size, 1, none⟩) (by go_simp)).trans (by go_simp)
  have yb7_2_38 : w31.cell? ⟨w13.heap.size, 2, none⟩ = some (.slice VC13 (dmgR gs ts xs t rs ys).1.r.length kd13) := (hb31.cell (p := ⟨w13.heap.size, 2, none⟩) (by go_simp)).trans (by go_simp)
  have Mc25_38 := Lib.hid (Marked3.below (Marked3.below Mc25_37.out bk_ om_) hb31 om_)
  clear hb31
  have kr31 : Below w31.heap.size w31 w31 := bl_refl _
  have v31H := Lib.hid v31
  clear v31
  repeat (first | ((with_reducible refine wpL_p (fun K hK => ?_)); go_simp; refine hK _ ?_; clear hK K) | ((with_reducible refine wpL_q (fun K hK => ?_)); go_simp; (first | refine hK _ ?_ | (go_bits; refine hK _ ?_) | (go_bits; go_simp; refine hK _ ?_)); clear hK K))
  with_reducible refine wpL_nil (fun bF27 w27f mvF => ?_)
  have huF := mvF.below
  obtain ⟨fl27, fb27⟩ := (fd31.mv mvF).2 _ rfl
  clear mvF
  have s39 : w31.heap.size ≤ w27f.heap.size := by have := huF.size; (try simp at this); omega
  have s39H := Lib.hid s39
  have kw_39 : Below w.heap.size w w27f := bl_tr bk_ huF
  have krV4_39 : Below w9.heap.size w9 w27f := bl_tr bk_ huF
  have kR27_39 : Below w26.heap.size w26 w27f := bl_tr bk_ huF
  have kc28_39 : Below w28.heap.size w28 w27f := bl_tr bk_ huF
  have kc29_39 : Below w29.heap.size w29 w27f := bl_tr bk_ huF
  have kc30_39 : Below w30.heap.size w30 w27f := bl_tr bk_ huF
  have kr31_39 : Below w31.heap.size w31 w27f := bl_tr bk_ huF
  have lb0_39 : w.heap.size < w27f.heap.size := Nat.lt_of_lt_of_le (by go_simp) huF.size
  have yb0_0_39 : w27f.cell? ⟨w.heap.size, 0, none⟩ = some (.slice G n cg) := (huF.cell (p := ⟨w.heap.size, 0, none⟩) (by go_simp)).trans (by go_simp)
  have yb0_1_39 : w27f.cell? ⟨w.heap.size, 1, none⟩ = some (.slice T m ct) := (huF.cell (p := ⟨w.heap.size, 1, none⟩) (by go_simp)).trans (by go_simp)
  have yb0_2_39 : w27f.cell? ⟨w.heap.size, 2, none⟩ = some (.slice A q ca) := (huF.cell (p := ⟨w.heap.size, 2, none⟩) (by go_simp)).trans (by go_simp)
  have yb0_3_39 : w27f.cell? ⟨w.heap.size, 3, none⟩ = some (.int .i64 t) := (huF.cell (p := ⟨w.heap.size, 3, none⟩) (by go_simp)).trans (by go_simp)
  have lb1_39 : w.heap.size + 1 < w27f.heap.size := Nat.lt_of_lt_of_le (by go_simp) huF.size
  have yb1_0_39 : w27f.cell? ⟨w.heap.size + 1, 0, none⟩ = some (.slice D nd cd) := (huF.cell (p := ⟨w.heap.size + 1, 0, none⟩) (by go_simp)).trans (by go_simp)
  have lb2_39 : w.heap.size + 2 < w27f.heap.size := Nat.lt_of_lt_of_le (by go_simp) huF.size
  have yb2_0_39 : w27f.cell? ⟨w.heap.size + 2, 0, none⟩ = some (.slice C nb cb) := (huF.cell (p := ⟨w.heap.size + 2, 0, none⟩) (by go_simp)).trans (by go_simp)
  have lb3_39 : bF4 < w27f.heap.size := Nat.lt_of_lt_of_le (by go_simp) huF.size
  have yb3_0_39 : w27f.cell? ⟨bF4, 0, none⟩ = some (.slice VA8 (dmgR gs ts xs t rs ys).1.p.length ka8) := (huF.cell (p := ⟨bF4, 0, none⟩) (by go_simp)).trans (by go_simp)
  have yb3_1_39 : w27f.cell? ⟨bF4, 1, none⟩ = some (.slice VB8 (dmgR gs ts xs t rs ys).1.q.length kb8) := (huF.cell (p := ⟨bF4, 1, none⟩) (by go_simp)).trans (by go_simp)
  have yb3_2_39 : w27f.cell? ⟨bF4, 2, none⟩ = some (.slice VC8 (dmgR gs ts xs t rs ys).1.r.length kd8) := (huF.cell (p := ⟨bF4, 2, none⟩) (by go_simp)).trans (by go_simp)
  have lb4_39 : w10.heap.size < w27f.heap.size := Nat.lt_of_lt_of_le (by go_simp) huF.size
  have yb4_0_39 : w27f.cell? ⟨w10.heap.size, 0, none⟩ = some (.slice G10 n n) := (huF.cell (p := ⟨w10.heap.size, 0, none⟩) (by go_simp)).trans (by go_simp)
  have yb4_1_39 : w27f.cell? ⟨w10.heap.size, 1, none⟩ = some (.slice T10 m m) := (huF.cell (p := ⟨w10.heap.size, 1, none⟩) (by go_simp)).trans (by go_simp)
  have yb4_2_39 : w27f.cell? ⟨w10.heap.size, 2, none⟩ = some (.slice A10 q q) := (huF.cell (p := ⟨w10.heap.size, 2, none⟩) (by go_simp)).trans (by go_simp)
  have yb4_3_39 : w27f.cell? ⟨w10.heap.size, 3, none⟩ = some (.int .i64 t) := (huF.cell (p := ⟨w10.heap.size, 3, none⟩) (by go_simp)).trans (by go_simp)
  have lb5_39 : w11.heap.size < w27f.heap.size := Nat.lt_of_lt_of_le (by go_simp) huF.size
  have yb5_0_39 : w27f.cell? ⟨w11.heap.size, 0, none⟩ = some (.slice A11 nd nd) := (huF.cell (p := ⟨w11.heap.size, 0, none⟩) (by go_simp)).trans (by go_simp)
  have lb6_39 : w12.heap.size < w27f.heap.size := Nat.lt_of_lt_of_le (by go_simp) huF.size
  have yb6_0_39 : w27f.cell? ⟨w12.heap.size, 0, none⟩ = some (.slice A12 nb nb) := (huF.cell (p := ⟨w12.heap.size, 0, none⟩) (by go_simp)).trans (by go_simp)
  have lb7_39 : w13.heap.size < w27f.heap.size := Nat.lt_of_lt_of_le (by go_simp) huF.size
  have yb7_0_39 : w27f.cell? ⟨w13.heap.size, 0, none⟩ = some (.slice VA13 (dmgR gs ts xs t rs ys).1.p.length ka13) := (huF.cell (p := ⟨w13.heap.size, 0, none⟩) (by go_simp)).trans (by go_simp)
  have yb7_1_39 : w27f.cell? ⟨w13.heap.size, 1, none⟩ = some (.slice VB13 (dmgR gs ts xs t rs ys).1.q.length kb13) := (huF.cell (p := ⟨w13.heap.size, 1, none⟩) (by go_simp)).trans (by go_simp)
  have yb7_2_39 : w27f.cell? ⟨w13.heap.size, 2, none⟩ = some (.slice VC13 (dmgR gs ts xs t rs ys).1.r.length kd13) := (huF.cell (p := ⟨w13.heap.size, 2, none⟩) (by go_simp)).trans (by go_simp)
  have Mc25_39 := Lib.hid (Marked3.below (Marked3.below Mc25_38.out bk_ om_) huF om_)
  simp only [World.size_drew] at fl27
  have rF : w27f.rowIs bF27 58 3 (fun i => (#[.slice none 0 0, .slice none 0 0, .slice none 0 0] : Array Value).getD i undef) := ⟨_, fb27, rfl, fun i hi => by simp [hi]⟩
  have yF0 := rF.cell (i := 0) (by decide)
  have kF0 := rF.frozen 0
  have yF1 := rF.cell (i := 1) (by decide)
  have kF1 := rF.frozen 1
  have yF2 := rF.cell (i := 2) (by decide)
  have kF2 := rF.frozen 2
  have rFH := Lib.hid rF
  clear rF
  have vF31_0 := Own3.below v31H.out kr31_39
  have vF31_0H := Lib.hid vF31_0
  clear vF31_0
  simp only [flPtr]
  with_reducible refine wpD_b (fun K hK => ?_)
  go_simp
  refine hK _ _ ?_
  clear hK K
  repeat (first | ((with_reducible refine wpD_p (fun K hK => ?_)); go_simp; refine hK _ ?_; clear hK K) | ((with_reducible refine wpD_q (fun K hK => ?_)); go_simp; (first | refine hK _ ?_ | (go_bits; refine hK _ ?_) | (go_bits; go_simp; refine hK _ ?_)); clear hK K))
  with_reducible refine wpD_nil ?_
  obtain ⟨w32, hV⟩ : ∃ V, V = (((w27f.setCell ⟨bF27, 0, none⟩ (.slice VA31 (dmgR gs ts xs t rs ys).1.p.length ka31)).setCell ⟨bF27, 1, none⟩ (.slice VB31 (dmgR gs ts xs t rs ys).1.q.length kb31)).setCell ⟨bF27, 2, none⟩ (.slice VC31 (dmgR gs ts xs t rs ys).1.r.length kd31)) := ⟨_, rfl⟩
  rw [← hV]
  have rV := (((rFH.out.set 0 (.slice VA31 (dmgR gs ts xs t rs ys).1.p.length ka31)).set 1 (.slice VB31 (dmgR gs ts xs t rs ys).1.q.length kb31)).set 2 (.slice VC31 (dmgR gs ts xs t rs ys).1.r.length kd31))
  have hb32 := (((kR27_39.setCell (p := ⟨bF27, 0, none⟩) fl27 (.slice VA31 (dmgR gs ts xs t rs ys).1.p.length ka31)).setCell (p := ⟨bF27, 1, none⟩) fl27 (.slice VB31 (dmgR gs ts xs t rs ys).1.q.length kb31)).setCell (p := ⟨bF27, 2, none⟩) fl27 (.slice VC31 (dmgR gs ts xs t rs ys).1.r.length kd31))
  rw [← hV] at rV hb32
  have yg27_0 : w32.cell? ⟨bF27, 0, none⟩ = some (.slice VA31 (dmgR gs ts xs t rs ys).1.p.length ka31) := by rw [rV.cell (i := 0) (by decide)]; simp
  have yg27_1 : w32.cell? ⟨bF27, 1, none⟩ = some (.slice VB31 (dmgR gs ts xs t rs ys).1.q.length kb31) := by rw [rV.cell (i := 1) (by decide)]; simp
  have yg27_2 : w32.cell? ⟨bF27, 2, none⟩ = some (.slice VC31 (dmgR gs ts xs t rs ys).1.r.length kd31) := by rw [rV.cell (i := 2) (by decide)]; simp
  have lg27 := rV.lt
  have sF27H := Lib.hid lg27
  have vV31_0 := (Own3.fl (g := bF27) (i := 2) (Own3.fl (g := bF27) (i := 1) (Own3.fl (g := bF27) (i := 0) vF31_0H.out rFH.out (by decide) (.slice VA31 (dmgR gs ts xs t rs ys).1.p.length ka31)) (rFH.out.set 0 (.slice VA31 (dmgR gs ts xs t rs ys).1.p.length ka31)) (by decide) (.slice VB31 (dmgR gs ts xs t rs ys).1.q.length kb31)) ((rFH.out.set 0 (.slice VA31 (dmgR gs ts xs t rs ys).1.p.length ka31)).set 1 (.slice VB31 (dmgR gs ts xs t rs ys).1.q.length kb31)) (by decide) (.slice VC31 (dmgR gs ts xs t rs ys).1.r.length kd31))
  rw [← hV] at vV31_0
  have vV31_0H := Lib.hid vV31_0
  clear vV31_0
  clear yF2 kF2 yF1 kF1 yF0 kF0 rV
  have s40 : w26.heap.size ≤ w32.heap.size := by have := hb32.size; (try simp at this); omega
  have s40H := Lib.hid s40
  have kw_40 : Below w.heap.size w w32 := bl_tr bk_ hb32
  have krV4_40 : Below w9.heap.size w9 w32 := bl_tr bk_ hb32
  have lb0_40 : w.heap.size < w32.heap.size := Nat.lt_of_lt_of_le (by go_simp) hb32.size
  have yb0_0_40 : w32.cell? ⟨w.heap.size, 0, none⟩ = some (.slice G n cg) := (hb32.cell (p := ⟨w.heap.size, 0, none⟩) (by go_simp)).trans (by go_simp)
  have yb0_1_40 : w32.cell? ⟨w.heap.size, 1, none⟩ = some (.slice T m ct) := (hb32.cell (p := ⟨w.heap.size, 1, none⟩) (by go_simp)).trans (by go_simp)
  have yb0_2_40 : w32.cell? ⟨w.heap.size, 2, none⟩ = some (.slice A q ca) := (hb32.cell (p := ⟨w.heap.size, 2, none⟩) (by go_simp)).trans (by go_simp)
  have yb0_3_40 : w32.cell? ⟨w.heap.size, 3, none⟩ = some (.int .i64 t) := (hb32.cell (p := ⟨w.heap.size, 3, none⟩) (by go_simp)).trans (by go_simp)
  have lb1_40 : w.heap.size + 1 < w32.heap.size := Nat.lt_of_lt_of_le (by go_simp) hb32.size
  have yb1_0_40 : w32.cell? ⟨w.heap.size + 1, 0, none⟩ = some (.slice D nd cd) := (hb32.cell (p := ⟨w.heap.size + 1, 0, none⟩) (by go_simp)).trans (by go_simp)
  have lb2_40 : w.heap.size + 2 < w32.heap.size := Nat.lt_of_lt_of_le (by go_simp) hb32.size
  have yb2_0_40 : w32.cell? ⟨w.heap.size + 2, 0, none⟩ = some (.slice C nb cb) := (hb32.cell (p := ⟨w.heap.size + 2, 0, none⟩) (by go_simp)).trans (by go_simp)
  have lb3_40 : bF4 < w32.heap.size := Nat.lt_of_lt_of_le (by go_simp) hb32.size
  have yb3_0_40 : w32.cell? ⟨bF4, 0, none⟩ = some (.slice VA8 (dmgR gs ts xs t rs ys).1.p.length ka8) := (hb32.cell (p := ⟨bF4, 0, none⟩) (by go_simp)).trans (by go_simp)
  have yb3_1_40 : w32.cell? ⟨bF4, 1, none⟩ = some (.slice VB8 (dmgR gs ts xs t rs ys).1.q.length kb8) := (hb32.cell (p := ⟨bF4, 1, none⟩) (by go_simp)).trans (by go_simp)
  have yb3_2_40 : w32.cell? ⟨bF4, 2, none⟩ = some (.slice VC8 (dmgR gs ts xs t rs ys).1.r.length kd8) := (hb32.cell (p := ⟨bF4, 2, none⟩) (by go_simp)).trans (by go_simp)
  have lb4_40 : w10.heap.size < w32.heap.size := Nat.lt_of_lt_of_le (by go_simp) hb32.size
  have yb4_0_40 : w32.cell? ⟨w10.heap.size, 0, none⟩ = some (.slice G10 n n) := (hb32.cell (p := ⟨w10.heap.size, 0, none⟩) (by go_simp)).trans (by go_simp)
  have yb4_1_40 : w32.cell? ⟨w10.heap.size, 1, none⟩ = some (.slice T10 m m) := (hb32.cell (p := ⟨w10.heap.size, 1, none⟩) (by go_simp)).trans (by go_simp)
  have yb4_2_40 : w32.cell? ⟨w10.heap.size, 2, none⟩ = some (.slice A10 q q) := (hb32.cell (p := ⟨w10.heap.size, 2, none⟩) (by go_simp)).trans (by go_simp)
  have yb4_3_40 : w32.cell? ⟨w10.heap.size, 3, none⟩ = some (.int .i64 t) := (hb32.cell (p := ⟨w10.heap.size, 3, none⟩) (by go_simp)).trans (by go_simp)
  have lb5_40 : w11.heap.size < w32.heap.size := Nat.lt_of_lt_of_le (by go_simp) hb32.size
  have yb5_0_40 : w32.cell? ⟨w11.heap.size, 0, none⟩ = some (.slice A11 nd nd) := (hb32.cell (p := ⟨w11.heap.size, 0, none⟩) (by go_simp)).trans (by go_simp)
  have lb6_40 : w12.heap.size < w32.heap.size := Nat.lt_of_lt_of_le (by go_simp) hb32.size
  have yb6_0_40 : w32.cell? ⟨w12.heap.size, 0, none⟩ = some (.slice A12 nb nb) := (hb32.cell (p := ⟨w12.heap.size, 0, none⟩) (by go_simp)).trans (by go_simp)
  have lb7_40 : w13.heap.size < w32.heap.size := Nat.lt_of_lt_of_le (by go_simp) hb32.size
  have yb7_0_40 : w32.cell? ⟨w13.heap.size, 0, none⟩ = some (.slice VA13 (dmgR gs ts xs t rs ys).1.p.length ka13) := (hb32.cell (p := ⟨w13.heap.size, 0, none⟩) (by go_simp)).trans (by go_simp)
  have yb7_1_40 : w32.cell? ⟨w13.heap.size, 1, none⟩ = some (.slice VB13 (dmgR gs ts xs t rs ys).1.q.length kb13) := (hb32.cell (p := ⟨w13.heap.size, 1, none⟩) (by go_simp)).trans (by go_simp)
  have yb7_2_40 : w32.cell? ⟨w13.heap.size, 2, none⟩ = some (.slice VC13 (dmgR gs ts xs t rs ys).1.r.length kd13) := (hb32.cell (p := ⟨w13.heap.size, 2, none⟩) (by go_simp)).trans (by go_simp)
  have Mc25_40 := Lib.hid (Marked3.below (Marked3.below Mc25_30.out bk_ om_) hb32 om_)
  clear Mc25_30 yb7_2_30 yb7_1_30 yb7_0_30 lb7_30 yb6_0_30 lb6_30 yb5_0_30 lb5_30 yb4_3_30 yb4_2_30 yb4_1_30 yb4_0_30 lb4_30 yb3_2_30 yb3_1_30 yb3_0_30 lb3_30 yb2_0_30 lb2_30 yb1_0_30 lb1_30 yb0_3_30 yb0_2_30 yb0_1_30 yb0_0_30 lb0_30 krV4_30 kw_30 s40
  clear hV hb32
  have krV27 : Below w32.heap.size w32 w32 := bl_refl _
  go_wp2_with fail
  refine (eqDamage_same _ _ _ _ _ _ _ _ _ _ _ _ (dmgR gs ts xs t rs ys).1 _ (Own3.rd (Own3.below vV31_0H.out bk_)) (Own3.rd (Own3.below vV8_0H.out bk_)) hRl.out).mono ?_
  rintro e w33 ⟨rfl, hb33⟩
  have s41 : w32.heap.size ≤ w33.heap.size := by have := hb33.size; (try simp at this); omega
  have s41H := Lib.hid s41
  have kw_41 : Below w.heap.size w w33 := bl_tr bk_ hb33
  have krV4_41 : Below w9.heap.size w9 w33 := bl_tr bk_ hb33
  have krV27_41 : Below w32.heap.size w32 w33 := bl_tr bk_ hb33
  have lb0_41 : w.heap.size < w33.heap.size := Nat.lt_of_lt_of_le (by go_simp) hb33.size
  have yb0_0_41 : w33.cell? ⟨w.heap.size, 0, none⟩ = some (.slice G n cg) := (hb33.cell (p := ⟨w.heap.size, 0, none⟩) (by go_simp)).trans (by go_simp)
  have yb0_1_41 : w33.cell? ⟨w.heap.size, 1, none⟩ = some (.slice T m ct) := (hb33.cell (p := ⟨w.heap.size, 1, none⟩) (by go_simp)).trans (by go_simp)
  have yb0_2_41 : w33.cell? ⟨w.heap.size, 2, none⟩ = some (.slice A q ca) := (hb33.cell (p := ⟨w.heap.size, 2, none⟩) (by go_simp)).trans (by go_simp)
  have yb0_3_41 : w33.cell? ⟨w.heap.size, 3, none⟩ = some (.int .i64 t) := (hb33.cell (p := ⟨w.heap.size, 3, none⟩) (by go_simp)).trans (by go_simp)
  have lb1_41 : w.heap.size + 1 < w33.heap.size := Nat.lt_of_lt_of_le (by go_simp) hb33.size
  have yb1_0_41 : w33.cell? ⟨w.heap.size + 1, 0, none⟩ = some (.slice D nd cd) := (hb33.cell (p := ⟨w.heap.size + 1, 0, none⟩) (by go_simp)).trans (by go_simp)
  have lb2_41 : w.heap.size + 2 < w33.heap.size := Nat.lt_of_lt_of_le (by go_simp) hb33.size
  have yb2_0_41 : w33.cell? ⟨w.heap.size + 2, 0, none⟩ = some (.slice C nb cb) := (hb33.cell (p := ⟨w.heap.size + 2, 0, none⟩) (by go_simp)).trans (by go_simp)
  have lb3_41 : bF4 < w33.heap.size := Nat.lt_of_lt_of_le (by go_simp) hb33.size
  have yb3_0_41 : w33.cell? ⟨bF4, 0, none⟩ = some (.slice VA8 (dmgR gs ts xs t rs ys).1.p.length ka8) := (hb33.cell (p := ⟨bF4, 0, none⟩) (by go_simp)).trans (by go_simp)
  have yb3_1_41 : w33.cell? ⟨bF4, 1, none⟩ = some (.slice VB8 (dmgR gs ts xs t rs ys).1.q.length kb8) := (hb33.cell (p := ⟨bF4, 1, none⟩) (by go_simp)).trans (by go_simp)
  have yb3_2_41 : w33.cell? ⟨bF4, 2, none⟩ = some (.slice VC8 (dmgR gs ts xs t rs ys).1.r.length kd8) := (hb33.cell (p := ⟨bF4, 2, none⟩) (by go_simp)).trans (by go_simp)
  have lb4_41 : w10.heap.size < w33.heap.size := Nat.lt_of_lt_of_le (by go_simp) hb33.size
  have yb4_0_41 : w33.cell? ⟨w10.heap.size, 0, none⟩ = some (.slice G10 n n) := (hb33.cell (p := ⟨w10.heap.size, 0, none⟩) (by go_simp)).trans (by go_simp)
  have yb4_1_41 : w33.cell? ⟨w10.heap.size, 1, none⟩ = some (.slice T10 m m) := (hb33.cell (p := ⟨w10.heap.size, 1, none⟩) (by go_simp)).trans (by go_simp)
  have yb4_2_41 : w33.cell? ⟨w10.heap.size, 2, none⟩ = some (.slice A10 q q) := (hb33.cell (p := ⟨w10.heap.size, 2, none⟩) (by go_simp)).trans (by go_simp)
  have yb4_3_41 : w33.cell? ⟨w10.heap.size, 3, none⟩ = some (.int .i64 t) := (hb33.cell (p := ⟨w10.heap.size, 3, none⟩) (by go_simp)).trans (by go_simp)
  have lb5_41 : w11.heap.size < w33.heap.size := Nat.lt_of_lt_of_le (by go_simp) hb33.size
  have yb5_0_41 : w33.cell? ⟨w11.heap.size, 0, none⟩ = some (.slice A11 nd nd) := (hb33.cell (p := ⟨w11.heap.size, 0, none⟩) (by go_simp)).trans (by go_simp)
  have lb6_41 : w12.heap.size < w33.heap.size := Nat.lt_of_lt_of_le (by go_simp) hb33.size
  have yb6_0_41 : w33.cell? ⟨w12.heap.size, 0, none⟩ = some (.slice A12 nb nb) := (hb33.cell (p := ⟨w12.heap.size, 0, none⟩) (by go_simp)).trans (by go_simp)
  have lb7_41 : w13.heap.size < w33.heap.size := Nat.lt_of_lt_of_le (by go_simp) hb33.size
  have yb7_0_41 : w33.cell? ⟨w13.heap.size, 0, none⟩ = some (.slice VA13 (dmgR gs ts xs t rs ys).1.p.length ka13) := (hb33.cell (p := ⟨w13.heap.size, 0, none⟩) (by go_simp)).trans (by go_simp)
  have yb7_1_41 : w33.cell? ⟨w13.heap.size, 1, none⟩ = some (.slice VB13 (dmgR gs ts xs t rs ys).1.q.length kb13) := (hb33.cell (p := ⟨w13.heap.size, 1, none⟩) (by go_simp)).trans (by go_simp)
  have yb7_2_41 : w33.cell? ⟨w13.heap.size, 2, none⟩ = some (.slice VC13 (dmgR gs ts xs t rs ys).1.r.length kd13) := (hb33.cell (p := ⟨w13.heap.size, 2, none⟩) (by go_simp)).trans (by go_simp)
  have lb8_41 : bF27 < w33.heap.size := Nat.lt_of_lt_of_le (by go_simp) hb33.size
  have yb8_0_41 : w33.cell? ⟨bF27, 0, none⟩ = some (.slice VA31 (dmgR gs ts xs t rs ys).1.p.length ka31) := (hb33.cell (p := ⟨bF27, 0, none⟩) (by go_simp)).trans (by go_simp)
  have yb8_1_41 : w33.cell? ⟨bF27, 1, none⟩ = some (.slice VB31 (dmgR gs ts xs t rs ys).1.q.length kb31) := (hb33.cell (p := ⟨bF27, 1, none⟩) (by go_simp)).trans (by go_simp)
  have yb8_2_41 : w33.cell? ⟨bF27, 2, none⟩ = some (.slice VC31 (dmgR gs ts xs t rs ys).1.r.length kd31) := (hb33.cell (p := ⟨bF27, 2, none⟩) (by go_simp)).trans (by go_simp)
  have Mc25_41 := Lib.hid (Marked3.below (Marked3.below Mc25_40.out bk_ om_) hb33 om_)
  clear Mc25_40 yg27_2 yg27_1 yg27_0 lg27 yb7_2_40 yb7_1_40 yb7_0_40 lb7_40 yb6_0_40 lb6_40 yb5_0_40 lb5_40 yb4_3_40 yb4_2_40 yb4_1_40 yb4_0_40 lb4_40 yb3_2_40 yb3_1_40 yb3_0_40 lb3_40 yb2_0_40 lb2_40 yb1_0_40 lb1_40 yb0_3_40 yb0_2_40 yb0_1_40 yb0_0_40 lb0_40 krV27 krV4_40 kw_40 s41
  clear hb33
  go_wp2_with fail
  refine (heldDamage_any _ _ _ _ _ _ 1 _ _ _ _ (Marked3.below Mc25_41.out bk_ om_) om_ hRl.out (by have := hRl.out; omega)).mono ?_
  rintro e w34 ⟨rfl, hb34⟩
  have s42 : w33.heap.size ≤ w34.heap.size := by have := hb34.size; (try simp at this); omega
  have s42H := Lib.hid s42
  have kw_42 : Below w.heap.size w w34 := bl_tr bk_ hb34
  have krV4_42 : Below w9.heap.size w9 w34 := bl_tr bk_ hb34
  have krV27_42 : Below w32.heap.size w32 w34 := bl_tr bk_ hb34
  have lb0_42 : w.heap.size < w34.heap.size := Nat.lt_of_lt_of_le (by go_simp) hb34.size
  have yb0_0_42 : w34.cell? ⟨w.heap.size, 0, none⟩ = some (.slice G n cg) := (hb34.cell (p := ⟨w.heap.size, 0, none⟩) (by go_simp)).trans (by go_simp)
  have yb0_1_42 : w34.cell? ⟨w.heap.size, 1, none⟩ = some (.slice T m ct) := (hb34.cell (p := ⟨w.heap.size, 1, none⟩) (by go_simp)).trans (by go_simp)
  have yb0_2_42 : w34.cell? ⟨w.heap.size, 2, none⟩ = some (.slice A q ca) := (hb34.cell (p := ⟨w.heap.size, 2, none⟩) (by go_simp)).trans (by go_simp)
  have yb0_3_42 : w34.cell? ⟨w.heap.size, 3, none⟩ = some (.int .i64 t) := (hb34.cell (p := ⟨w.heap.size, 3, none⟩) (by go_simp)).trans (by go_simp)
  have lb1_42 : w.heap.size + 1 < w34.heap.size := Nat.lt_of_lt_of_le (by go_simp) hb34.size
  have yb1_0_42 : w34.cell? ⟨w.heap.size + 1, 0, none⟩ = some (.slice D nd cd) := (hb34.cell (p := ⟨w.heap.size + 1, 0, none⟩) (by go_simp)).trans (by go_simp)
  have lb2_42 : w.heap.size + 2 < w34.heap.size := Nat.lt_of_lt_of_le (by go_simp) hb34.size
  have yb2_0_42 : w34.cell? ⟨w.heap.size + 2, 0, none⟩ = some (.slice C nb cb) := (hb34.cell (p := ⟨w.heap.size + 2, 0, none⟩) (by go_simp)).trans (by go_simp)
  have lb3_42 : bF4 < w34.heap.size := Nat.lt_of_lt_of_le (by go_simp) hb34.size
  have yb3_0_42 : w34.cell? ⟨bF4, 0, none⟩ = some (.slice VA8 (dmgR gs ts xs t rs ys).1.p.length ka8) := (hb34.cell (p := ⟨bF4, 0, none⟩) (by go_simp)).trans (by go_simp)
  have yb3_1_42 : w34.cell? ⟨bF4, 1, none⟩ = some (.slice VB8 (dmgR gs ts xs t rs ys).1.q.length kb8) := (hb34.cell (p := ⟨bF4, 1, none⟩) (by go_simp)).trans (by go_simp)
  have yb3_2_42 : w34.cell? ⟨bF4, 2, none⟩ = some (.slice VC8 (dmgR gs ts xs t rs ys).1.r.length kd8) := (hb34.cell (p := ⟨bF4, 2, none⟩) (by go_simp)).trans (by go_simp)
  have lb4_42 : w10.heap.size < w34.heap.size := Nat.lt_of_lt_of_le (by go_simp) hb34.size
  have yb4_0_42 : w34.cell? ⟨w10.heap.size, 0, none⟩ = some (.slice G10 n n) := (hb34.cell (p := ⟨w10.heap.size, 0, none⟩) (by go_simp)).trans (by go_simp)
  have yb4_1_42 : w34.cell? ⟨w10.heap.size, 1, none⟩ = some (.slice T10 m m) := (hb34.cell (p := ⟨w10.heap.size, 1, none⟩) (by go_simp)).trans (by go_simp)
  have yb4_2_42 : w34.cell? ⟨w10.heap.size, 2, none⟩ = some (.slice A10 q q) := (hb34.cell (p := ⟨w10.heap.size, 2, none⟩) (by go_simp)).trans (by go_simp)
  have yb4_3_42 : w34.cell? ⟨w10.heap.size, 3, none⟩ = some (.int .i64 t) := (hb34.cell (p := ⟨w10.heap.size, 3, none⟩) (by go_simp)).trans (by go_simp)
  have lb5_42 : w11.heap.size < w34.heap.size := Nat.lt_of_lt_of_le (by go_simp) hb34.size
  have yb5_0_42 : w34.cell? ⟨w11.heap.size, 0, none⟩ = some (.slice A11 nd nd) := (hb34.cell (p := ⟨w11.heap.size, 0, none⟩) (by go_simp)).trans (by go_simp)
  have lb6_42 : w12.heap.size < w34.heap.size := Nat.lt_of_lt_of_le (by go_simp) hb34.size
  have yb6_0_42 : w34.cell? ⟨w12.heap.size, 0, none⟩ = some (.slice A12 nb nb) := (hb34.cell (p := ⟨w12.heap.size, 0, none⟩) (by go_simp)).trans (by go_simp)
  have lb7_42 : w13.heap.size < w34.heap.size := Nat.lt_of_lt_of_le (by go_simp) hb34.size
  have yb7_0_42 : w34.cell? ⟨w13.heap.size, 0, none⟩ = some (.slice VA13 (dmgR gs ts xs t rs ys).1.p.length ka13) := (hb34.cell (p := ⟨w13.heap.size, 0, none⟩) (by go_simp)).trans (by go_simp)
  have yb7_1_42 : w34.cell? ⟨w13.heap.size, 1, none⟩ = some (.slice VB13 (dmgR gs ts xs t rs ys).1.q.length kb13) := (hb34.cell (p := ⟨w13.heap.size, 1, none⟩) (by go_simp)).trans (by go_simp)
  have yb7_2_42 : w34.cell? ⟨w13.heap.size, 2, none⟩ = some (.slice VC13 (dmgR gs ts xs t rs ys).1.r.length kd13) := (hb34.cell (p := ⟨w13.heap.size, 2, none⟩) (by go_simp)).trans (by go_simp)
  have lb8_42 : bF27 < w34.heap.size := Nat.lt_of_lt_of_le (by go_simp) hb34.size
  have yb8_0_42 : w34.cell? ⟨bF27, 0, none⟩ = some (.slice VA31 (dmgR gs ts xs t rs ys).1.p.length ka31) := (hb34.cell (p := ⟨bF27, 0, none⟩) (by go_simp)).trans (by go_simp)
  have yb8_1_42 : w34.cell? ⟨bF27, 1, none⟩ = some (.slice VB31 (dmgR gs ts xs t rs ys).1.q.length kb31) := (hb34.cell (p := ⟨bF27, 1, none⟩) (by go_simp)).trans (by go_simp)
  have yb8_2_42 : w34.cell? ⟨bF27, 2, none⟩ = some (.slice VC31 (dmgR gs ts xs t rs ys).1.r.length kd31) := (hb34.cell (p := ⟨bF27, 2, none⟩) (by go_simp)).trans (by go_simp)
  have Mc25_42 := Lib.hid (Marked3.below (Marked3.below Mc25_41.out bk_ om_) hb34 om_)
  clear Mc25_41 yb8_2_41 yb8_1_41 yb8_0_41 lb8_41 yb7_2_41 yb7_1_41 yb7_0_41 lb7_41 yb6_0_41 lb6_41 yb5_0_41 lb5_41 yb4_3_41 yb4_2_41 yb4_1_41 yb4_0_41 lb4_41 yb3_2_41 yb3_1_41 yb3_0_41 lb3_41 yb2_0_41 lb2_41 yb1_0_41 lb1_41 yb0_3_41 yb0_2_41 yb0_1_41 yb0_0_41 lb0_41 krV27_41 krV4_41 kw_41 s42
  clear hb34
  go_wp2_with fail
  go_ret
  exact ⟨rfl, bk_⟩
end Go.Proofs.YtglcpphfmmnmkaaGreat
