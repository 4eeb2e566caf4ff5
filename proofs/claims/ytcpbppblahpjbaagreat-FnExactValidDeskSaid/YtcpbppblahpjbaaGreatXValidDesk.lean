/- Walk: the law FnExactValidDesk. -/
import Derived.Test.YtcpbppblahpjbaaGreatKT
import Derived.Test.YtcpbppblahpjbaaGreatKE
import Derived.Test.YtcpbppblahpjbaaGreatKH
namespace Go.Proofs.YtcpbppblahpjbaaGreat
open Go.RowKit
set_option linter.unusedSimpArgs false
set_option linter.unusedVariables false
attribute [local go_sem] BelowBy.cell BelowBy.cell_drew stillUpon givesUpon BelowBy.cell_drew2 BelowBy.cell_drew3

set_option maxRecDepth 100000 in
set_option maxHeartbeats 4000000 in
theorem FnExactValidDesk_any (ld : Bool) (G : Option Addr) (n cg : Nat) (gs : List Gl) (T : Option Addr) (m ct : Nat) (ts : List Ti) (A : Option Addr) (q ca : Nat) (xs : List Pl) (t : Int) (C : Option Addr) (nb cb : Nat) (ys : List Pl) (F : Option Addr) (nf cf : Nat) (fl : List Int) (w : World) (hG : RdSl 2 RGl w G n gs) (hT : RdSl 2 RTi w T m ts) (hln : n ≤ 9223372036854775807) (hlm : m ≤ 9223372036854775807) (hgn : ∀ e ∈ gs, e.name.size ≤ 9223372036854775807) (htn : ∀ e ∈ ts, e.name.size ≤ 9223372036854775807 ∧ e.sides.length ≤ 9223372036854775807) (hA : RdSl 3 RPl w A q xs) (hlq : q ≤ 9223372036854775807) (hC : RdSl 3 RPl w C nb ys) (hlnb : nb ≤ 9223372036854775807) (hF : RdSl 1 RInt w F nf fl) (hlnf : nf ≤ 9223372036854775807) :
    Calls Tryz.prog 7 #[.agg #[.bool ld, .slice G n cg, .slice T m ct, .slice A q ca, .int .i64 t, .slice C nb cb, .slice F nf cf]] w fun e w' => e = .returned (.bool true) ∧ Below w.heap.size w w' := by
  have hgnH := Lib.hid hgn
  have htnH := Lib.hid htn
  have hgk := Lib.hid (fun (k : Nat) (e : Gl) (h : gs[k]? = some e) => hgn e (List.mem_of_getElem? h))
  have htk := Lib.hid (fun (k : Nat) (e : Ti) (h : ts[k]? = some e) => htn e (List.mem_of_getElem? h))
  clear hgn htn
  go_enter Tryz.func7, Tryz.ntmps7
  have kw := bl_refl w
  go_wp2_with fail
  refine (szDesk_any _ _ _ _ _ _ _ _ _ _ _ _ _ _ _ _ gs ts _ _ _ (hG.below RGl.stable (by repeat (first | with_reducible assumption | with_reducible exact bl_refl _ | with_reducible refine bl_al ?_ _ | with_reducible refine bl_dr ?_))) (hT.below RTi.stable (by repeat (first | with_reducible assumption | with_reducible exact bl_refl _ | with_reducible refine bl_al ?_ _ | with_reducible refine bl_dr ?_))) (by omega) (by omega) hln hlm hgnH.out htnH.out hlq hlnb hlnf).mono ?_
  rintro e w1 ⟨r1, rfl, (rfl | ⟨hr10, hr11, ⟨⟨⟨hzn, hx1⟩, hzm, hx2⟩, hzq⟩, hznb, hznf⟩), hb1⟩
  · go_wp2
    go_ret
    exact ⟨rfl, bl_tr (by repeat (first | with_reducible assumption | with_reducible exact bl_refl _ | with_reducible refine bl_al ?_ _ | with_reducible refine bl_dr ?_)) hb1⟩
  have htsH := Lib.hid (show ∀ e ∈ ts, e.sides.length ≤ 1073741824 from fun e he => by have := (hx2 e he).2; omega)
  clear hx1 hx2
  have s1 : w.heap.size + 1 ≤ w1.heap.size := by have := hb1.size; (try simp at this); omega
  have s1H := Lib.hid s1
  have kw_1 : Below w.heap.size w w1 := bl_tr (by repeat (first | with_reducible assumption | with_reducible exact bl_refl _ | with_reducible refine bl_al ?_ _ | with_reducible refine bl_dr ?_)) hb1
  have lb0_1 : w.heap.size < w1.heap.size := Nat.lt_of_lt_of_le (by go_simp) hb1.size
  have yb0_0_1 : w1.cell? ⟨w.heap.size, 0, none⟩ = some (.bool ld) := (hb1.cell (p := ⟨w.heap.size, 0, none⟩) (by go_simp)).trans (by go_simp)
  have yb0_1_1 : w1.cell? ⟨w.heap.size, 1, none⟩ = some (.slice G n cg) := (hb1.cell (p := ⟨w.heap.size, 1, none⟩) (by go_simp)).trans (by go_simp)
  have yb0_2_1 : w1.cell? ⟨w.heap.size, 2, none⟩ = some (.slice T m ct) := (hb1.cell (p := ⟨w.heap.size, 2, none⟩) (by go_simp)).trans (by go_simp)
  have yb0_3_1 : w1.cell? ⟨w.heap.size, 3, none⟩ = some (.slice A q ca) := (hb1.cell (p := ⟨w.heap.size, 3, none⟩) (by go_simp)).trans (by go_simp)
  have yb0_4_1 : w1.cell? ⟨w.heap.size, 4, none⟩ = some (.int .i64 t) := (hb1.cell (p := ⟨w.heap.size, 4, none⟩) (by go_simp)).trans (by go_simp)
  have yb0_5_1 : w1.cell? ⟨w.heap.size, 5, none⟩ = some (.slice C nb cb) := (hb1.cell (p := ⟨w.heap.size, 5, none⟩) (by go_simp)).trans (by go_simp)
  have yb0_6_1 : w1.cell? ⟨w.heap.size, 6, none⟩ = some (.slice F nf cf) := (hb1.cell (p := ⟨w.heap.size, 6, none⟩) (by go_simp)).trans (by go_simp)
  clear kw s1
  clear hb1
  go_wp2_with fail
  refine (toDesk_any _ _ _ _ _ _ _ _ _ _ _ _ _ _ _ _ gs ts xs ys _ fl _ (hG.below RGl.stable (by repeat (first | with_reducible assumption | with_reducible exact bl_refl _ | with_reducible refine bl_al ?_ _ | with_reducible refine bl_dr ?_))) (hT.below RTi.stable (by repeat (first | with_reducible assumption | with_reducible exact bl_refl _ | with_reducible refine bl_al ?_ _ | with_reducible refine bl_dr ?_))) (hA.below RPl.stable (by repeat (first | with_reducible assumption | with_reducible exact bl_refl _ | with_reducible refine bl_al ?_ _ | with_reducible refine bl_dr ?_))) (hC.below RPl.stable (by repeat (first | with_reducible assumption | with_reducible exact bl_refl _ | with_reducible refine bl_al ?_ _ | with_reducible refine bl_dr ?_))) (hF.below RInt.stable (by repeat (first | with_reducible assumption | with_reducible exact bl_refl _ | with_reducible refine bl_al ?_ _ | with_reducible refine bl_dr ?_))) (by omega) (by omega) htsH.out (by omega) (by omega) (by omega)).mono ?_
  rintro e w2 ⟨G2, T2, A2, C2, F2, rfl, ⟨o2, p2, z2⟩, ob2, fb2, hb2⟩
  have s2 : w1.heap.size ≤ w2.heap.size := by have := hb2.size; (try simp at this); omega
  have s2H := Lib.hid s2
  have kw_2 : Below w.heap.size w w2 := bl_tr (by repeat (first | with_reducible assumption | with_reducible exact bl_refl _ | with_reducible refine bl_al ?_ _ | with_reducible refine bl_dr ?_)) hb2
  have lb0_2 : w.heap.size < w2.heap.size := Nat.lt_of_lt_of_le (by go_simp) hb2.size
  have yb0_0_2 : w2.cell? ⟨w.heap.size, 0, none⟩ = some (.bool ld) := (hb2.cell (p := ⟨w.heap.size, 0, none⟩) (by go_simp)).trans (by go_simp)
  have yb0_1_2 : w2.cell? ⟨w.heap.size, 1, none⟩ = some (.slice G n cg) := (hb2.cell (p := ⟨w.heap.size, 1, none⟩) (by go_simp)).trans (by go_simp)
  have yb0_2_2 : w2.cell? ⟨w.heap.size, 2, none⟩ = some (.slice T m ct) := (hb2.cell (p := ⟨w.heap.size, 2, none⟩) (by go_simp)).trans (by go_simp)
  have yb0_3_2 : w2.cell? ⟨w.heap.size, 3, none⟩ = some (.slice A q ca) := (hb2.cell (p := ⟨w.heap.size, 3, none⟩) (by go_simp)).trans (by go_simp)
  have yb0_4_2 : w2.cell? ⟨w.heap.size, 4, none⟩ = some (.int .i64 t) := (hb2.cell (p := ⟨w.heap.size, 4, none⟩) (by go_simp)).trans (by go_simp)
  have yb0_5_2 : w2.cell? ⟨w.heap.size, 5, none⟩ = some (.slice C nb cb) := (hb2.cell (p := ⟨w.heap.size, 5, none⟩) (by go_simp)).trans (by go_simp)
  have yb0_6_2 : w2.cell? ⟨w.heap.size, 6, none⟩ = some (.slice F nf cf) := (hb2.cell (p := ⟨w.heap.size, 6, none⟩) (by go_simp)).trans (by go_simp)
  clear yb0_6_1 yb0_5_1 yb0_4_1 yb0_3_1 yb0_2_1 yb0_1_1 yb0_0_1 lb0_1 kw_1 s2
  clear hb2
  have kc2 : Below w2.heap.size w2 w2 := bl_refl _
  have o2H := Lib.hid o2
  clear o2
  have p2H := Lib.hid p2
  clear p2
  have z2H := Lib.hid z2
  clear z2
  have ob2H := Lib.hid ob2
  clear ob2
  have fb2H := Lib.hid fb2
  clear fb2
  go_wp2_with fail
  refine (sValidDesk_any _ _ _ _ _ _ _ _ _ _ _ _ _ _ _ _ gs ts xs ys _ fl _ ⟨o2H.out.rd.below RGl.stable (by repeat (first | with_reducible assumption | with_reducible exact bl_refl _ | with_reducible refine bl_al ?_ _ | with_reducible refine bl_dr ?_)), p2H.out.rdTi.below RTi.stable (by repeat (first | with_reducible assumption | with_reducible exact bl_refl _ | with_reducible refine bl_al ?_ _ | with_reducible refine bl_dr ?_)), z2H.out.rd.below RPl.stable (by repeat (first | with_reducible assumption | with_reducible exact bl_refl _ | with_reducible refine bl_al ?_ _ | with_reducible refine bl_dr ?_)), by omega, by omega, by omega, hgk.out, htk.out⟩ ⟨o2H.out.rd.below RGl.stable (by repeat (first | with_reducible assumption | with_reducible exact bl_refl _ | with_reducible refine bl_al ?_ _ | with_reducible refine bl_dr ?_)), p2H.out.rdTi.below RTi.stable (by repeat (first | with_reducible assumption | with_reducible exact bl_refl _ | with_reducible refine bl_al ?_ _ | with_reducible refine bl_dr ?_)), ob2H.out.rd.below RPl.stable (by repeat (first | with_reducible assumption | with_reducible exact bl_refl _ | with_reducible refine bl_al ?_ _ | with_reducible refine bl_dr ?_)), by omega, by omega, by omega, hgk.out, htk.out⟩ (fb2H.out.rd.below RInt.stable (by repeat (first | with_reducible assumption | with_reducible exact bl_refl _ | with_reducible refine bl_al ?_ _ | with_reducible refine bl_dr ?_))) (by omega)).mono ?_
  rintro e w3 ⟨rfl, hb3⟩
  have s3 : w2.heap.size ≤ w3.heap.size := by have := hb3.size; (try simp at this); omega
  have s3H := Lib.hid s3
  have kw_3 : Below w.heap.size w w3 := bl_tr (by repeat (first | with_reducible assumption | with_reducible exact bl_refl _ | with_reducible refine bl_al ?_ _ | with_reducible refine bl_dr ?_)) hb3
  have kc2_3 : Below w2.heap.size w2 w3 := bl_tr (by repeat (first | with_reducible assumption | with_reducible exact bl_refl _ | with_reducible refine bl_al ?_ _ | with_reducible refine bl_dr ?_)) hb3
  have lb0_3 : w.heap.size < w3.heap.size := Nat.lt_of_lt_of_le (by go_simp) hb3.size
  have yb0_0_3 : w3.cell? ⟨w.heap.size, 0, none⟩ = some (.bool ld) := (hb3.cell (p := ⟨w.heap.size, 0, none⟩) (by go_simp)).trans (by go_simp)
  have yb0_1_3 : w3.cell? ⟨w.heap.size, 1, none⟩ = some (.slice G n cg) := (hb3.cell (p := ⟨w.heap.size, 1, none⟩) (by go_simp)).trans (by go_simp)
  have yb0_2_3 : w3.cell? ⟨w.heap.size, 2, none⟩ = some (.slice T m ct) := (hb3.cell (p := ⟨w.heap.size, 2, none⟩) (by go_simp)).trans (by go_simp)
  have yb0_3_3 : w3.cell? ⟨w.heap.size, 3, none⟩ = some (.slice A q ca) := (hb3.cell (p := ⟨w.heap.size, 3, none⟩) (by go_simp)).trans (by go_simp)
  have yb0_4_3 : w3.cell? ⟨w.heap.size, 4, none⟩ = some (.int .i64 t) := (hb3.cell (p := ⟨w.heap.size, 4, none⟩) (by go_simp)).trans (by go_simp)
  have yb0_5_3 : w3.cell? ⟨w.heap.size, 5, none⟩ = some (.slice C nb cb) := (hb3.cell (p := ⟨w.heap.size, 5, none⟩) (by go_simp)).trans (by go_simp)
  have yb0_6_3 : w3.cell? ⟨w.heap.size, 6, none⟩ = some (.slice F nf cf) := (hb3.cell (p := ⟨w.heap.size, 6, none⟩) (by go_simp)).trans (by go_simp)
  clear yb0_6_2 yb0_5_2 yb0_4_2 yb0_3_2 yb0_2_2 yb0_1_2 yb0_0_2 lb0_2 kc2 kw_2 s3
  clear hb3
  have kr3 : Below w3.heap.size w3 w3 := bl_refl _
  go_wp2_with fail
  refine (toDesk_any _ _ _ _ _ _ _ _ _ _ _ _ _ _ _ _ gs ts xs ys _ fl _ (hG.below RGl.stable (by repeat (first | with_reducible assumption | with_reducible exact bl_refl _ | with_reducible refine bl_al ?_ _ | with_reducible refine bl_dr ?_))) (hT.below RTi.stable (by repeat (first | with_reducible assumption | with_reducible exact bl_refl _ | with_reducible refine bl_al ?_ _ | with_reducible refine bl_dr ?_))) (hA.below RPl.stable (by repeat (first | with_reducible assumption | with_reducible exact bl_refl _ | with_reducible refine bl_al ?_ _ | with_reducible refine bl_dr ?_))) (hC.below RPl.stable (by repeat (first | with_reducible assumption | with_reducible exact bl_refl _ | with_reducible refine bl_al ?_ _ | with_reducible refine bl_dr ?_))) (hF.below RInt.stable (by repeat (first | with_reducible assumption | with_reducible exact bl_refl _ | with_reducible refine bl_al ?_ _ | with_reducible refine bl_dr ?_))) (by omega) (by omega) htsH.out (by omega) (by omega) (by omega)).mono ?_
  rintro e w4 ⟨G4, T4, A4, C4, F4, rfl, ⟨o4, p4, z4⟩, ob4, fb4, hb4⟩
  have s4 : w3.heap.size ≤ w4.heap.size := by have := hb4.size; (try simp at this); omega
  have s4H := Lib.hid s4
  have kw_4 : Below w.heap.size w w4 := bl_tr (by repeat (first | with_reducible assumption | with_reducible exact bl_refl _ | with_reducible refine bl_al ?_ _ | with_reducible refine bl_dr ?_)) hb4
  have kc2_4 : Below w2.heap.size w2 w4 := bl_tr (by repeat (first | with_reducible assumption | with_reducible exact bl_refl _ | with_reducible refine bl_al ?_ _ | with_reducible refine bl_dr ?_)) hb4
  have kr3_4 : Below w3.heap.size w3 w4 := bl_tr (by repeat (first | with_reducible assumption | with_reducible exact bl_refl _ | with_reducible refine bl_al ?_ _ | with_reducible refine bl_dr ?_)) hb4
  have lb0_4 : w.heap.size < w4.heap.size := Nat.lt_of_lt_of_le (by go_simp) hb4.size
  have yb0_0_4 : w4.cell? ⟨w.heap.size, 0, none⟩ = some (.bool ld) := (hb4.cell (p := ⟨w.heap.size, 0, none⟩) (by go_simp)).trans (by go_simp)
  have yb0_1_4 : w4.cell? ⟨w.heap.size, 1, none⟩ = some (.slice G n cg) := (hb4.cell (p := ⟨w.heap.size, 1, none⟩) (by go_simp)).trans (by go_simp)
  have yb0_2_4 : w4.cell? ⟨w.heap.size, 2, none⟩ = some (.slice T m ct) := (hb4.cell (p := ⟨w.heap.size, 2, none⟩) (by go_simp)).trans (by go_simp)
  have yb0_3_4 : w4.cell? ⟨w.heap.size, 3, none⟩ = some (.slice A q ca) := (hb4.cell (p := ⟨w.heap.size, 3, none⟩) (by go_simp)).trans (by go_simp)
  have yb0_4_4 : w4.cell? ⟨w.heap.size, 4, none⟩ = some (.int .i64 t) := (hb4.cell (p := ⟨w.heap.size, 4, none⟩) (by go_simp)).trans (by go_simp)
  have yb0_5_4 : w4.cell? ⟨w.heap.size, 5, none⟩ = some (.slice C nb cb) := (hb4.cell (p := ⟨w.heap.size, 5, none⟩) (by go_simp)).trans (by go_simp)
  have yb0_6_4 : w4.cell? ⟨w.heap.size, 6, none⟩ = some (.slice F nf cf) := (hb4.cell (p := ⟨w.heap.size, 6, none⟩) (by go_simp)).trans (by go_simp)
  clear yb0_6_3 yb0_5_3 yb0_4_3 yb0_3_3 yb0_2_3 yb0_1_3 yb0_0_3 lb0_3 kr3 kc2_3 kw_3 s4
  clear hb4
  have kc4 : Below w4.heap.size w4 w4 := bl_refl _
  have o4H := Lib.hid o4
  clear o4
  have p4H := Lib.hid p4
  clear p4
  have z4H := Lib.hid z4
  clear z4
  have ob4H := Lib.hid ob4
  clear ob4
  have fb4H := Lib.hid fb4
  clear fb4
  go_wp2_with fail
  refine (ValidDesk_any _ _ _ _ _ _ _ _ _ _ _ _ _ _ _ _ gs ts xs ys _ fl _ ⟨o4H.out.rd.below RGl.stable (by repeat (first | with_reducible assumption | with_reducible exact bl_refl _ | with_reducible refine bl_al ?_ _ | with_reducible refine bl_dr ?_)), p4H.out.rdTi.below RTi.stable (by repeat (first | with_reducible assumption | with_reducible exact bl_refl _ | with_reducible refine bl_al ?_ _ | with_reducible refine bl_dr ?_)), z4H.out.rd.below RPl.stable (by repeat (first | with_reducible assumption | with_reducible exact bl_refl _ | with_reducible refine bl_al ?_ _ | with_reducible refine bl_dr ?_)), by omega, by omega, by omega, hgk.out, htk.out⟩ ⟨o4H.out.rd.below RGl.stable (by repeat (first | with_reducible assumption | with_reducible exact bl_refl _ | with_reducible refine bl_al ?_ _ | with_reducible refine bl_dr ?_)), p4H.out.rdTi.below RTi.stable (by repeat (first | with_reducible assumption | with_reducible exact bl_refl _ | with_reducible refine bl_al ?_ _ | with_reducible refine bl_dr ?_)), ob4H.out.rd.below RPl.stable (by repeat (first | with_reducible assumption | with_reducible exact bl_refl _ | with_reducible refine bl_al ?_ _ | with_reducible refine bl_dr ?_)), by omega, by omega, by omega, hgk.out, htk.out⟩ (fb4H.out.rd.below RInt.stable (by repeat (first | with_reducible assumption | with_reducible exact bl_refl _ | with_reducible refine bl_al ?_ _ | with_reducible refine bl_dr ?_))) (by omega)).mono ?_
  rintro e w5 ⟨rfl, hb5⟩
  have s5 : w4.heap.size + 1 ≤ w5.heap.size := by have := hb5.size; (try simp at this); omega
  have s5H := Lib.hid s5
  have kw_5 : Below w.heap.size w w5 := bl_tr (by repeat (first | with_reducible assumption | with_reducible exact bl_refl _ | with_reducible refine bl_al ?_ _ | with_reducible refine bl_dr ?_)) hb5
  have kc2_5 : Below w2.heap.size w2 w5 := bl_tr (by repeat (first | with_reducible assumption | with_reducible exact bl_refl _ | with_reducible refine bl_al ?_ _ | with_reducible refine bl_dr ?_)) hb5
  have kr3_5 : Below w3.heap.size w3 w5 := bl_tr (by repeat (first | with_reducible assumption | with_reducible exact bl_refl _ | with_reducible refine bl_al ?_ _ | with_reducible refine bl_dr ?_)) hb5
  have kc4_5 : Below w4.heap.size w4 w5 := bl_tr (by repeat (first | with_reducible assumption | with_reducible exact bl_refl _ | with_reducible refine bl_al ?_ _ | with_reducible refine bl_dr ?_)) hb5
  have lb0_5 : w.heap.size < w5.heap.size := Nat.lt_of_lt_of_le (by go_simp) hb5.size
  have yb0_0_5 : w5.cell? ⟨w.heap.size, 0, none⟩ = some (.bool ld) := (hb5.cell (p := ⟨w.heap.size, 0, none⟩) (by go_simp)).trans (by go_simp)
  have yb0_1_5 : w5.cell? ⟨w.heap.size, 1, none⟩ = some (.slice G n cg) := (hb5.cell (p := ⟨w.heap.size, 1, none⟩) (by go_simp)).trans (by go_simp)
  have yb0_2_5 : w5.cell? ⟨w.heap.size, 2, none⟩ = some (.slice T m ct) := (hb5.cell (p := ⟨w.heap.size, 2, none⟩) (by go_simp)).trans (by go_simp)
  have yb0_3_5 : w5.cell? ⟨w.heap.size, 3, none⟩ = some (.slice A q ca) := (hb5.cell (p := ⟨w.heap.size, 3, none⟩) (by go_simp)).trans (by go_simp)
  have yb0_4_5 : w5.cell? ⟨w.heap.size, 4, none⟩ = some (.int .i64 t) := (hb5.cell (p := ⟨w.heap.size, 4, none⟩) (by go_simp)).trans (by go_simp)
  have yb0_5_5 : w5.cell? ⟨w.heap.size, 5, none⟩ = some (.slice C nb cb) := (hb5.cell (p := ⟨w.heap.size, 5, none⟩) (by go_simp)).trans (by go_simp)
  have yb0_6_5 : w5.cell? ⟨w.heap.size, 6, none⟩ = some (.slice F nf cf) := (hb5.cell (p := ⟨w.heap.size, 6, none⟩) (by go_simp)).trans (by go_simp)
  have lb1_5 : w4.heap.size < w5.heap.size := Nat.lt_of_lt_of_le (by go_simp) hb5.size
  have yb1_0_5 : w5.cell? ⟨w4.heap.size, 0, none⟩ = some (.bool ld) := (hb5.cell (p := ⟨w4.heap.size, 0, none⟩) (by go_simp)).trans (by go_simp)
  have yb1_1_5 : w5.cell? ⟨w4.heap.size, 1, none⟩ = some (.slice G4 n n) := (hb5.cell (p := ⟨w4.heap.size, 1, none⟩) (by go_simp)).trans (by go_simp)
  have yb1_2_5 : w5.cell? ⟨w4.heap.size, 2, none⟩ = some (.slice T4 m m) := (hb5.cell (p := ⟨w4.heap.size, 2, none⟩) (by go_simp)).trans (by go_simp)
  have yb1_3_5 : w5.cell? ⟨w4.heap.size, 3, none⟩ = some (.slice A4 q q) := (hb5.cell (p := ⟨w4.heap.size, 3, none⟩) (by go_simp)).trans (by go_simp)
  have yb1_4_5 : w5.cell? ⟨w4.heap.size, 4, none⟩ = some (.int .i64 t) := (hb5.cell (p := ⟨w4.heap.size, 4, none⟩) (by go_simp)).trans (by go_simp)
  have yb1_5_5 : w5.cell? ⟨w4.heap.size, 5, none⟩ = some (.slice C4 nb nb) := (hb5.cell (p := ⟨w4.heap.size, 5, none⟩) (by go_simp)).trans (by go_simp)
  have yb1_6_5 : w5.cell? ⟨w4.heap.size, 6, none⟩ = some (.slice F4 nf nf) := (hb5.cell (p := ⟨w4.heap.size, 6, none⟩) (by go_simp)).trans (by go_simp)
  clear yb0_6_4 yb0_5_4 yb0_4_4 yb0_3_4 yb0_2_4 yb0_1_4 yb0_0_4 lb0_4 kc4 kr3_4 kc2_4 kw_4 s5
  clear hb5
  have kr5 : Below w5.heap.size w5 w5 := bl_refl _
  go_wp2_with fail
  refine wp_region_ord [(0, .q), (1, .q), (2, .g), (3, .g), (4, .q)] (by kernel_rfl) (by kernel_rfl) ?_
  simp only [pick, List.filterMap_cons, List.filterMap_nil, List.getElem?_toArray, List.getElem?_cons_zero, List.getElem?_cons_succ, Option.map_some]
  repeat (first | ((with_reducible refine wpD_p (fun K hK => ?_)); go_simp; refine hK _ ?_; clear hK K) | ((with_reducible refine wpD_q (fun K hK => ?_)); go_simp; (first | refine hK _ ?_ | (go_bits; refine hK _ ?_) | (go_bits; go_simp; refine hK _ ?_)); clear hK K))
  with_reducible refine wpD_g (fun K hK => ?_)
  go_simp
  refine (toDesk_any _ _ _ _ _ _ _ _ _ _ _ _ _ _ _ _ gs ts xs ys _ fl _ (hG.below RGl.stable (by repeat (first | with_reducible assumption | with_reducible exact bl_refl _ | with_reducible refine bl_al ?_ _ | with_reducible refine bl_dr ?_))) (hT.below RTi.stable (by repeat (first | with_reducible assumption | with_reducible exact bl_refl _ | with_reducible refine bl_al ?_ _ | with_reducible refine bl_dr ?_))) (hA.below RPl.stable (by repeat (first | with_reducible assumption | with_reducible exact bl_refl _ | with_reducible refine bl_al ?_ _ | with_reducible refine bl_dr ?_))) (hC.below RPl.stable (by repeat (first | with_reducible assumption | with_reducible exact bl_refl _ | with_reducible refine bl_al ?_ _ | with_reducible refine bl_dr ?_))) (hF.below RInt.stable (by repeat (first | with_reducible assumption | with_reducible exact bl_refl _ | with_reducible refine bl_al ?_ _ | with_reducible refine bl_dr ?_))) (by omega) (by omega) htsH.out (by omega) (by omega) (by omega)).mono ?_
  rintro e w6 ⟨G6, T6, A6, C6, F6, rfl, ⟨o6, p6, z6⟩, ob6, fb6, hb6⟩
  refine ⟨_, rfl, hb6, hK _ _ ?_⟩
  clear hK K
  have s6 : w5.heap.size ≤ w6.heap.size := by have := hb6.size; (try simp at this); omega
  have s6H := Lib.hid s6
  have kw_6 : Below w.heap.size w w6 := bl_tr (by repeat (first | with_reducible assumption | with_reducible exact bl_refl _ | with_reducible refine bl_al ?_ _ | with_reducible refine bl_dr ?_)) hb6
  have kc2_6 : Below w2.heap.size w2 w6 := bl_tr (by repeat (first | with_reducible assumption | with_reducible exact bl_refl _ | with_reducible refine bl_al ?_ _ | with_reducible refine bl_dr ?_)) hb6
  have kr3_6 : Below w3.heap.size w3 w6 := bl_tr (by repeat (first | with_reducible assumption | with_reducible exact bl_refl _ | with_reducible refine bl_al ?_ _ | with_reducible refine bl_dr ?_)) hb6
  have kc4_6 : Below w4.heap.size w4 w6 := bl_tr (by repeat (first | with_reducible assumption | with_reducible exact bl_refl _ | with_reducible refine bl_al ?_ _ | with_reducible refine bl_dr ?_)) hb6
  have kr5_6 : Below w5.heap.size w5 w6 := bl_tr (by repeat (first | with_reducible assumption | with_reducible exact bl_refl _ | with_reducible refine bl_al ?_ _ | with_reducible refine bl_dr ?_)) hb6
  have lb0_6 : w.heap.size < w6.heap.size := Nat.lt_of_lt_of_le (by go_simp) hb6.size
  have yb0_0_6 : w6.cell? ⟨w.heap.size, 0, none⟩ = some (.bool ld) := (hb6.cell (p := ⟨w.heap.size, 0, none⟩) (by go_simp)).trans (by go_simp)
  have yb0_1_6 : w6.cell? ⟨w.heap.size, 1, none⟩ = some (.slice G n cg) := (hb6.cell (p := ⟨w.heap.size, 1, none⟩) (by go_simp)).trans (by go_simp)
  have yb0_2_6 : w6.cell? ⟨w.heap.size, 2, none⟩ = some (.slice T m ct) := (hb6.cell (p := ⟨w.heap.size, 2, none⟩) (by go_simp)).trans (by go_simp)
  have yb0_3_6 : w6.cell? ⟨w.heap.size, 3, none⟩ = some (.slice A q ca) := (hb6.cell (p := ⟨w.heap.size, 3, none⟩) (by go_simp)).trans (by go_simp)
  have yb0_4_6 : w6.cell? ⟨w.heap.size, 4, none⟩ = some (.int .i64 t) := (hb6.cell (p := ⟨w.heap.size, 4, none⟩) (by go_simp)).trans (by go_simp)
  have yb0_5_6 : w6.cell? ⟨w.heap.size, 5, none⟩ = some (.slice C nb cb) := (hb6.cell (p := ⟨w.heap.size, 5, none⟩) (by go_simp)).trans (by go_simp)
  have yb0_6_6 : w6.cell? ⟨w.heap.size, 6, none⟩ = some (.slice F nf cf) := (hb6.cell (p := ⟨w.heap.size, 6, none⟩) (by go_simp)).trans (by go_simp)
  have lb1_6 : w4.heap.size < w6.heap.size := Nat.lt_of_lt_of_le (by go_simp) hb6.size
  have yb1_0_6 : w6.cell? ⟨w4.heap.size, 0, none⟩ = some (.bool ld) := (hb6.cell (p := ⟨w4.heap.size, 0, none⟩) (by go_simp)).trans (by go_simp)
  have yb1_1_6 : w6.cell? ⟨w4.heap.size, 1, none⟩ = some (.slice G4 n n) := (hb6.cell (p := ⟨w4.heap.size, 1, none⟩) (by go_simp)).trans (by go_simp)
  have yb1_2_6 : w6.cell? ⟨w4.heap.size, 2, none⟩ = some (.slice T4 m m) := (hb6.cell (p := ⟨w4.heap.size, 2, none⟩) (by go_simp)).trans (by go_simp)
  have yb1_3_6 : w6.cell? ⟨w4.heap.size, 3, none⟩ = some (.slice A4 q q) := (hb6.cell (p := ⟨w4.heap.size, 3, none⟩) (by go_simp)).trans (by go_simp)
  have yb1_4_6 : w6.cell? ⟨w4.heap.size, 4, none⟩ = some (.int .i64 t) := (hb6.cell (p := ⟨w4.heap.size, 4, none⟩) (by go_simp)).trans (by go_simp)
  have yb1_5_6 : w6.cell? ⟨w4.heap.size, 5, none⟩ = some (.slice C4 nb nb) := (hb6.cell (p := ⟨w4.heap.size, 5, none⟩) (by go_simp)).trans (by go_simp)
  have yb1_6_6 : w6.cell? ⟨w4.heap.size, 6, none⟩ = some (.slice F4 nf nf) := (hb6.cell (p := ⟨w4.heap.size, 6, none⟩) (by go_simp)).trans (by go_simp)
  clear yb1_6_5 yb1_5_5 yb1_4_5 yb1_3_5 yb1_2_5 yb1_1_5 yb1_0_5 lb1_5 yb0_6_5 yb0_5_5 yb0_4_5 yb0_3_5 yb0_2_5 yb0_1_5 yb0_0_5 lb0_5 kr5 kc4_5 kr3_5 kc2_5 kw_5 s6
  clear hb6
  have kc6 : Below w6.heap.size w6 w6 := bl_refl _
  have o6H := Lib.hid o6
  clear o6
  have p6H := Lib.hid p6
  clear p6
  have z6H := Lib.hid z6
  clear z6
  have ob6H := Lib.hid ob6
  clear ob6
  have fb6H := Lib.hid fb6
  clear fb6
  with_reducible refine wpD_g (fun K hK => ?_)
  go_simp
  refine (eqDesk_same _ _ _ _ _ _ _ _ _ _ _ _ _ _ _ _ _ _ _ _ _ _ _ _ _ _ gs ts xs ys fl _ _ (o4H.out.rd.below RGl.stable (by repeat (first | with_reducible assumption | with_reducible exact bl_refl _ | with_reducible refine bl_al ?_ _ | with_reducible refine bl_dr ?_))) (o6H.out.rd.below RGl.stable (by repeat (first | with_reducible assumption | with_reducible exact bl_refl _ | with_reducible refine bl_al ?_ _ | with_reducible refine bl_dr ?_))) (p4H.out.rdTi.below RTi.stable (by repeat (first | with_reducible assumption | with_reducible exact bl_refl _ | with_reducible refine bl_al ?_ _ | with_reducible refine bl_dr ?_))) (p6H.out.rdTi.below RTi.stable (by repeat (first | with_reducible assumption | with_reducible exact bl_refl _ | with_reducible refine bl_al ?_ _ | with_reducible refine bl_dr ?_))) (z4H.out.rd.below RPl.stable (by repeat (first | with_reducible assumption | with_reducible exact bl_refl _ | with_reducible refine bl_al ?_ _ | with_reducible refine bl_dr ?_))) (z6H.out.rd.below RPl.stable (by repeat (first | with_reducible assumption | with_reducible exact bl_refl _ | with_reducible refine bl_al ?_ _ | with_reducible refine bl_dr ?_))) (ob4H.out.rd.below RPl.stable (by repeat (first | with_reducible assumption | with_reducible exact bl_refl _ | with_reducible refine bl_al ?_ _ | with_reducible refine bl_dr ?_))) (ob6H.out.rd.below RPl.stable (by repeat (first | with_reducible assumption | with_reducible exact bl_refl _ | with_reducible refine bl_al ?_ _ | with_reducible refine bl_dr ?_))) (fb4H.out.rd.below RInt.stable (by repeat (first | with_reducible assumption | with_reducible exact bl_refl _ | with_reducible refine bl_al ?_ _ | with_reducible refine bl_dr ?_))) (fb6H.out.rd.below RInt.stable (by repeat (first | with_reducible assumption | with_reducible exact bl_refl _ | with_reducible refine bl_al ?_ _ | with_reducible refine bl_dr ?_))) (by omega) (by omega) htsH.out (by omega) (by omega) (by omega)).mono ?_
  rintro e w7 ⟨rfl, hb7⟩
  refine ⟨_, rfl, hb7, hK _ _ ?_⟩
  clear hK K
  have s7 : w6.heap.size ≤ w7.heap.size := by have := hb7.size; (try simp at this); omega
  have s7H := Lib.hid s7
  have kw_7 : Below w.heap.size w w7 := bl_tr (by repeat (first | with_reducible assumption | with_reducible exact bl_refl _ | with_reducible refine bl_al ?_ _ | with_reducible refine bl_dr ?_)) hb7
  have kc2_7 : Below w2.heap.size w2 w7 := bl_tr (by repeat (first | with_reducible assumption | with_reducible exact bl_refl _ | with_reducible refine bl_al ?_ _ | with_reducible refine bl_dr ?_)) hb7
  have kr3_7 : Below w3.heap.size w3 w7 := bl_tr (by repeat (first | with_reducible assumption | with_reducible exact bl_refl _ | with_reducible refine bl_al ?_ _ | with_reducible refine bl_dr ?_)) hb7
  have kc4_7 : Below w4.heap.size w4 w7 := bl_tr (by repeat (first | with_reducible assumption | with_reducible exact bl_refl _ | with_reducible refine bl_al ?_ _ | with_reducible refine bl_dr ?_)) hb7
  have kr5_7 : Below w5.heap.size w5 w7 := bl_tr (by repeat (first | with_reducible assumption | with_reducible exact bl_refl _ | with_reducible refine bl_al ?_ _ | with_reducible refine bl_dr ?_)) hb7
  have kc6_7 : Below w6.heap.size w6 w7 := bl_tr (by repeat (first | with_reducible assumption | with_reducible exact bl_refl _ | with_reducible refine bl_al ?_ _ | with_reducible refine bl_dr ?_)) hb7
  have lb0_7 : w.heap.size < w7.heap.size := Nat.lt_of_lt_of_le (by go_simp) hb7.size
  have yb0_0_7 : w7.cell? ⟨w.heap.size, 0, none⟩ = some (.bool ld) := (hb7.cell (p := ⟨w.heap.size, 0, none⟩) (by go_simp)).trans (by go_simp)
  have yb0_1_7 : w7.cell? ⟨w.heap.size, 1, none⟩ = some (.slice G n cg) := (hb7.cell (p := ⟨w.heap.size, 1, none⟩) (by go_simp)).trans (by go_simp)
  have yb0_2_7 : w7.cell? ⟨w.heap.size, 2, none⟩ = some (.slice T m ct) := (hb7.cell (p := ⟨w.heap.size, 2, none⟩) (by go_simp)).trans (by go_simp)
  have yb0_3_7 : w7.cell? ⟨w.heap.size, 3, none⟩ = some (.slice A q ca) := (hb7.cell (p := ⟨w.heap.size, 3, none⟩) (by go_simp)).trans (by go_simp)
  have yb0_4_7 : w7.cell? ⟨w.heap.size, 4, none⟩ = some (.int .i64 t) := (hb7.cell (p := ⟨w.heap.size, 4, none⟩) (by go_simp)).trans (by go_simp)
  have yb0_5_7 : w7.cell? ⟨w.heap.size, 5, none⟩ = some (.slice C nb cb) := (hb7.cell (p := ⟨w.heap.size, 5, none⟩) (by go_simp)).trans (by go_simp)
  have yb0_6_7 : w7.cell? ⟨w.heap.size, 6, none⟩ = some (.slice F nf cf) := (hb7.cell (p := ⟨w.heap.size, 6, none⟩) (by go_simp)).trans (by go_simp)
  have lb1_7 : w4.heap.size < w7.heap.size := Nat.lt_of_lt_of_le (by go_simp) hb7.size
  have yb1_0_7 : w7.cell? ⟨w4.heap.size, 0, none⟩ = some (.bool ld) := (hb7.cell (p := ⟨w4.heap.size, 0, none⟩) (by go_simp)).trans (by go_simp)
  have yb1_1_7 : w7.cell? ⟨w4.heap.size, 1, none⟩ = some (.slice G4 n n) := (hb7.cell (p := ⟨w4.heap.size, 1, none⟩) (by go_simp)).trans (by go_simp)
  have yb1_2_7 : w7.cell? ⟨w4.heap.size, 2, none⟩ = some (.slice T4 m m) := (hb7.cell (p := ⟨w4.heap.size, 2, none⟩) (by go_simp)).trans (by go_simp)
  have yb1_3_7 : w7.cell? ⟨w4.heap.size, 3, none⟩ = some (.slice A4 q q) := (hb7.cell (p := ⟨w4.heap.size, 3, none⟩) (by go_simp)).trans (by go_simp)
  have yb1_4_7 : w7.cell? ⟨w4.heap.size, 4, none⟩ = some (.int .i64 t) := (hb7.cell (p := ⟨w4.heap.size, 4, none⟩) (by go_simp)).trans (by go_simp)
  have yb1_5_7 : w7.cell? ⟨w4.heap.size, 5, none⟩ = some (.slice C4 nb nb) := (hb7.cell (p := ⟨w4.heap.size, 5, none⟩) (by go_simp)).trans (by go_simp)
  have yb1_6_7 : w7.cell? ⟨w4.heap.size, 6, none⟩ = some (.slice F4 nf nf) := (hb7.cell (p := ⟨w4.heap.size, 6, none⟩) (by go_simp)).trans (by go_simp)
  clear yb1_6_6 yb1_5_6 yb1_4_6 yb1_3_6 yb1_2_6 yb1_1_6 yb1_0_6 lb1_6 yb0_6_6 yb0_5_6 yb0_4_6 yb0_3_6 yb0_2_6 yb0_1_6 yb0_0_6 lb0_6 kc6 kr5_6 kc4_6 kr3_6 kc2_6 kw_6 s7
  clear hb7
  repeat (first | ((with_reducible refine wpD_p (fun K hK => ?_)); go_simp; refine hK _ ?_; clear hK K) | ((with_reducible refine wpD_q (fun K hK => ?_)); go_simp; (first | refine hK _ ?_ | (go_bits; refine hK _ ?_) | (go_bits; go_simp; refine hK _ ?_)); clear hK K))
  with_reducible refine wpD_nil ?_
  go_wp2_with fail
  go_ret
  exact ⟨rfl, (by repeat (first | with_reducible assumption | with_reducible exact bl_refl _ | with_reducible refine bl_al ?_ _ | with_reducible refine bl_dr ?_))⟩
end Go.Proofs.YtcpbppblahpjbaaGreat
