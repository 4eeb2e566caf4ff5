/- Walk: the law on parts. -/
import Derived.Test.YtpnahobgmemdjaaKB
import Derived.Test.YtpnahobgmemdjaaPb1
import Derived.Test.YtpnahobgmemdjaaKT
import Derived.Test.YtpnahobgmemdjaaHAS
import Derived.Test.YtpnahobgmemdjaaKN
namespace Go.Proofs.Ytpnahobgmemdjaa
open Go.RowKit
set_option linter.unusedSimpArgs false
set_option linter.unusedVariables false
attribute [local go_sem] BelowBy.cell BelowBy.cell_drew stillUpon givesUpon

/-- what the law keeps: the parts put together so far -/
structure PSt (W4 : World) (b6 : Nat) (B : Option Addr) (K cB : Nat) (U : List Pl) (W : World) : Prop where
  bel : Below W4.heap.size W4 W
  box : Bx W b6 [.slice B K cB]
  un : RdSl 3 RPl W B K U
theorem PSt.below {W4 W W' : World} {b6 : Nat} {B : Option Addr} {K cB : Nat} {U : List Pl} (h : PSt W4 b6 B K cB U W) (hb : Below W.heap.size W W') : PSt W4 b6 B K cB U W' :=
  ⟨h.bel.trans (hb.mono h.bel.size), h.box.below hb, h.un.below RPl.stable hb⟩
/-- .. and the parts with the next one, in a box of their own -/
structure QSt (W4 : World) (b6 : Nat) (B : Option Addr) (K cB : Nat) (U : List Pl) (b8 : Nat) (D : Option Addr) (K' cD : Nat) (U' : List Pl) (W : World) : Prop where
  pst : PSt W4 b6 B K cB U W
  bn : Bx W b8 [.slice D K' cD]
  dr : W.ownsRow (b6 + 1) 38 3 (.slice D K' cD) K' (plCells U')
theorem QSt.below {W4 W W' : World} {b6 : Nat} {B : Option Addr} {K cB : Nat} {U : List Pl} {b8 : Nat} {D : Option Addr} {K' cD : Nat} {U' : List Pl} (h : QSt W4 b6 B K cB U b8 D K' cD U' W) (hb : Below W.heap.size W W') : QSt W4 b6 B K cB U b8 D K' cD U' W' :=
  ⟨h.pst.below hb, h.bn.below hb, ownsRow_below h.dr hb⟩
theorem validPt_of {x y : Int} (h : (-60 ≤ x ∧ x ≤ 60) ∧ (-60 ≤ y ∧ y ≤ 60)) : validPt x y = true := by
  simp only [validPt, Bool.and_eq_true, inB_true]; exact h
/-- a row among rows -/
theorem rows_get {w : World} {A : Option Addr} {M k : Nat} {P : List (List Pl)} {L : List Pl} (h : RdSl 1 (RRow 3 RPl) w A M P) (hk : P[k]? = some L) (hM : k < M) :
    ∃ g o D n c, A = some ⟨g, o, none⟩ ∧ g < w.heap.size ∧ w.cell? ⟨g, o + k, none⟩ = some (.slice D n c) ∧ RdSl 3 RPl w D n L := by
  obtain ⟨g, o, rfl, hg, hc⟩ := h.ptr (by omega)
  obtain ⟨D, n, c, h1, h2⟩ := hc k L hk
  rw [Nat.mul_one] at h1
  exact ⟨g, o, D, n, c, rfl, hg, h1, h2⟩
theorem SameAsm_at {A B : Option Addr} {n n2 c c2 : Nat} {xs : List Pl} {w : World} (h : RdSl 3 RPl w A n xs) (h2 : RdSl 3 RPl w B n2 xs) (hn : xs.length ≤ 1000000) :
    Calls Try.prog 9 #[.agg #[.slice A n c], .agg #[.slice B n2 c2]] w fun e w' => e = .returned (.bool true) ∧ Below w.heap.size w w' := SameAssembly_any h h2 hn
theorem PartsOne_any {A : Option Addr} {n c : Nat} {xs : List Pl} {w : World} (h : RdSl 3 RPl w A n xs) (hn : n ≤ 1073741824) (h1 : (partsR xs).length = 1) :
    Calls Try.prog 7 #[.agg #[.slice A n c]] w fun e w' => ∃ A' c', e = .returned (.slice A' 1 c') ∧ Below w.heap.size w w' := by
  refine (PartsOf_any A n c xs w h hn).mono ?_
  rintro e w' ⟨A', c', us, rfl, _, hb⟩
  rw [h1]
  exact ⟨A', c', rfl, hb⟩
set_option maxRecDepth 100000 in
set_option maxHeartbeats 8000000 in
theorem FnParts_any {n c : Nat} {C : Option Addr} {bs : List Nat} (w : World) (h : RdSl 1 RBy w C n bs) :
    Calls Try.prog 3 #[.slice C n c] w fun e w' => e = .returned (.bool true) ∧ Below w.heap.size w w' := by
  have hH := Lib.hid h
  clear h
  by_cases hn : 4096 < n
  · have hnH := Lib.hid (show decide (4096 < n) = true from decide_eq_true hn)
    clear hn
    go_enter Try.func3, Try.ntmps3
    go_wp2_with (go_at_call 5; refine (f6big_at _ hnH.out).mono ?_; rintro e _ ⟨rfl, rfl⟩)
    go_ret
    exact ⟨rfl, bl_refl _⟩
  have hnH := Lib.hid (show decide (4096 < n) = false from decide_eq_false hn)
  have hnle : n ≤ 1000000 := by omega
  clear hn
  go_enter Try.func3, Try.ntmps3
  go_wp2_with fail
  refine (f6big_at _ hnH.out).mono ?_
  rintro e _ ⟨rfl, rfl⟩
  go_wp2_with fail
  refine (DrawPartsOf_any hH.out hnle).mono ?_
  rintro e w1 ⟨A, ca, xs, N, rfl, hO1, hl1, hN, hb1⟩
  have hbw1 := Lib.hid hb1
  have hX1 := Lib.hid (rdPl_own hO1 hl1)
  have hs1 := hb1.size
  clear hO1 hb1 hH
  go_wp2_with fail
  obtain ⟨b3, hb3e⟩ : ∃ b, w1.heap.size = b := ⟨_, rfl⟩
  obtain ⟨w2, hw2⟩ : ∃ z, z = w1.alloc (Obj.cells #[.slice A N ca] 26) := ⟨_, rfl⟩
  have bX2 : Bx w2 w1.heap.size [.slice A N ca] := by rw [hw2]; exact Bx.made w1 [.slice A N ca] _
  have hb2 : Below w1.heap.size w1 w2 := by rw [hw2]; exact bl_al (bl_refl _) _
  have hbw2 := Lib.hid (hbw1.out.trans (hb2.mono hs1))
  have hX2 := Lib.hid (hX1.out.below RPl.stable hb2)
  rw [← hw2]
  try simp only [hb3e]
  rw [hb3e] at bX2
  clear hw2 hb2 hbw1 hX1 hb3e hs1
  refine (PartsOf_any A N ca xs _ hX2.out (by omega)).mono ?_
  obtain ⟨P, hP0⟩ : ∃ P, partsR xs = P := ⟨_, rfl⟩
  obtain ⟨M, hM⟩ : ∃ M, P.length = M := ⟨_, rfl⟩
  have hM5 : M ≤ 500 := by rw [← hM, ← hP0]; exact (partsR_small xs).1
  rw [hP0]
  rintro e w3 ⟨A1, c1, us1, rfl, hR1, hb3⟩
  rw [hM] at hR1 ⊢
  have hL1 := Lib.hid (rdAssemblyS hR1 hM.symm)
  have bX3 := bX2.below hb3
  have hbw3 := Lib.hid (hbw2.out.trans (hb3.mono hbw2.out.size))
  have hX3 := Lib.hid (hX2.out.below RPl.stable hb3)
  clear hR1 hb3 bX2 hbw2 hX2
  have y3 := bX3.cell 0 _ rfl
  have l3 := bX3.lt
  go_wp2_with fail
  refine (sPartsOf_any A N ca xs _ hX3.out (by omega)).mono ?_
  rw [hP0]
  rintro e w4 ⟨A2, c2, us2, rfl, hR2, hb4⟩
  rw [hM] at hR2 ⊢
  have hL2 := Lib.hid (rdAssemblyS hR2 hM.symm)
  have hL1 := Lib.hid (hL1.out.below (RRow.stable RPl.stable) hb4)
  have bX4 := bX3.below hb4
  have hbw4 := Lib.hid (hbw3.out.trans (hb4.mono hbw3.out.size))
  have hX4 := Lib.hid (hX3.out.below RPl.stable hb4)
  clear hR2 hb4 bX3 hbw3 hX3 y3 l3
  have y3w := bX4.cell 0 _ rfl
  have l3w := bX4.lt
  have hPH := Lib.hid hP0
  have hMH := Lib.hid hM
  clear bX4 hP0 hM
  go_wp2_with fail
  obtain ⟨b6, hb6e⟩ : ∃ b, w4.heap.size = b := ⟨_, rfl⟩
  have hP0 : Hid (PSt w4 w4.heap.size none 0 0 (subX xs (uptoQ xs 0)) (w4.alloc (Obj.cells #[.slice none 0 0] 26))) := Lib.hid ⟨bl_al (bl_refl _) _, Bx.made w4 [.slice none 0 0] _, by rw [upto_zero]; exact rdPl_own (base := 0) (World.ownsRow_nil _ _ _ _) rfl⟩
  obtain ⟨w5, hw5⟩ : ∃ z, z = w4.alloc (Obj.cells #[.slice none 0 0] 26) := ⟨_, rfl⟩
  rw [← hw5] at hP0 ⊢
  try simp only [hb6e]
  rw [hb6e] at hP0
  have hb6l : w4.heap.size ≤ b6 := by omega
  clear hw5 hb6e
  go_loopg [7] M (fun g i wr => ∃ (k : Nat) (B : Option Addr) (K cB : Nat), k + g = M ∧ i = .int .i64 (k : Int) ∧ Hid (PSt w4 b6 B K cB (subX xs (uptoQ xs k)) wr))
  case atStart => exact ⟨0, none, 0, 0, by omega, rfl, hP0⟩
  case round =>
    clear hP0
    obtain ⟨k, B, K, cB, hk, rfl, hP⟩ := hrel
    by_cases hkM : k < M
    · have hkI : (k : Int) < (M : Int) := by omega
      have hf : hasFormB xs = true := by
        cases hf : hasFormB xs
        · have h1 := hPH.out
          have h2 := hMH.out
          unfold partsR at h1
          rw [hf, if_neg (by simp)] at h1
          rw [← h1] at h2
          simp at h2
          omega
        · rfl
      have hPQ : partsQ xs = P := by have h1 := hPH.out; unfold partsR at h1; rw [if_pos hf] at h1; exact h1
      have hcnt : M = cntX xs := by rw [← hMH.out, ← hPQ, partsQ_cnt]
      have hkc : k < cntX xs := by omega
      obtain ⟨L, hL⟩ : ∃ L, subX xs (isQ xs k) = L := ⟨_, rfl⟩
      have hPk : P[k]? = some L := by rw [← hPQ, partsQ_get hkc, hL]
      have hfL : hasFormB L = true := by rw [← hL]; exact subX_form hf _
      have hfU := Lib.hid (subX_form hf (uptoQ xs k))
      obtain ⟨hone, hpos⟩ := part_one hf hkc
      rw [hL] at hone hpos
      have hLl := form_len hfL
      have htwo := Lib.hid (subX_two hf (f := uptoQ xs k) (g := isQ xs k) (fun v _ => upto_is k v))
      have hjn := Lib.hid (join_next hf k)
      have hjl := Lib.hid (join_len hf k)
      have hU1 := form_len (subX_form hf (uptoQ xs (k + 1)))
      rw [hL] at htwo hjn hjl
      obtain ⟨g1, o1, D1, n1, d1, rfl, lg1w, m1w, hD1⟩ := rows_get hL1.out hPk hkM
      obtain ⟨g2, o2, D2, n2, d2, rfl, lg2w, m2w, hD2⟩ := rows_get hL2.out hPk hkM
      have hn2 := hD2.len
      have hun := hP.out.un.len
      have hK5 : K ≤ 500 := by rw [← hun]; exact form_len hfU.out
      have hn25 : n2 ≤ 500 := by omega
      have hn20 : 0 < n2 := by omega
      have hn15 : n1 ≤ 500 := by have := hD1.len; omega
      obtain ⟨K', hK'⟩ : ∃ K', (subX xs (uptoQ xs (k + 1))).length = K' := ⟨_, rfl⟩
      have hsum : K' = K + n2 := by rw [← hK', hjl.out, hun, hn2]
      have hK5' : K' ≤ 500 := by omega
      have hKI : (K : Int) + (n2 : Int) = (K' : Int) := by omega
      have hwK : IntKind.i64.wrap ((K : Int) + (n2 : Int)) = (K' : Int) := by rw [wrapPb (by omega) (by omega)]; exact hKI
      have hL5 : Hid (L.length ≤ 500) := Lib.hid hLl
      have hK'H := Lib.hid hK'
      have hD1H := Lib.hid hD1
      have hD2H := Lib.hid hD2
      have hLH := Lib.hid hL
      have hfH := Lib.hid hf
      have hfLH := Lib.hid hfL
      have honeH := Lib.hid hone
      clear hPQ hcnt hL hPk hfL hone hf hD1 hD2 hkc hn2 hun hsum hKI hK' hLl hU1 hjl hpos
      have hbl := hP.out.bel
      have hszl := hbl.size
      have y3 := (hbl.cell (p := ⟨b3, 0, none⟩) l3w).trans y3w
      have l3 : b3 < wr.heap.size := by omega
      have y6 := hP.out.box.cell 0 _ rfl
      have f6 := hP.out.box.froz 0
      have l6 := hP.out.box.lt
      have m1 := (hbl.cell (p := ⟨g1, o1 + k, none⟩) lg1w).trans m1w
      have lg1 : g1 < wr.heap.size := by omega
      have m2 := (hbl.cell (p := ⟨g2, o2 + k, none⟩) lg2w).trans m2w
      have lg2 : g2 < wr.heap.size := by omega
      clear hbl
      go_wp2_with fail
      replace hP := Lib.hid (hP.out.below (bl_dr (bl_refl wr)))
      refine wp_region_ord [(0, .q), (1, .q), (2, .q), (3, .q), (4, .q), (5, .q), (6, .q), (7, .q), (8, .g), (9, .q), (10, .q), (11, .q), (12, .q), (13, .q), (14, .q), (15, .g), (16, .q), (17, .q), (18, .q)] (by kernel_rfl) (by kernel_rfl) ?_
      simp only [pick, List.filterMap_cons, List.filterMap_nil, List.getElem?_toArray, List.getElem?_cons_zero, List.getElem?_cons_succ, Option.map_some]
      repeat (first | ((with_reducible refine wpD_p (fun K hK => ?_)); go_simp; refine hK _ ?_; clear hK K) | ((with_reducible refine wpD_q (fun K hK => ?_)); go_simp; (first | refine hK _ ?_ | (go_bits; refine hK _ ?_) | (go_bits; go_simp; refine hK _ ?_)); clear hK K))
      with_reducible refine wpD_g (fun KK hKK => ?_)
      go_simp
      refine (SameAsm_at (hD1H.out.below RPl.stable hP.out.bel) (hD2H.out.below RPl.stable hP.out.bel) (by have := hL5.out; omega)).mono ?_
      rintro e w6 ⟨rfl, hb6⟩
      refine ⟨_, rfl, hb6, hKK _ _ ?_⟩
      clear hKK KK
      replace hP := Lib.hid (hP.out.below hb6)
      clear hb6
      clear y3 l3 y6 f6 l6 m1 lg1 m2 lg2 hszl
      have hbl := hP.out.bel
      have hszl := hbl.size
      have y3 := (hbl.cell (p := ⟨b3, 0, none⟩) l3w).trans y3w
      have l3 : b3 < w6.heap.size := by omega
      have y6 := hP.out.box.cell 0 _ rfl
      have f6 := hP.out.box.froz 0
      have l6 := hP.out.box.lt
      have m1 := (hbl.cell (p := ⟨g1, o1 + k, none⟩) lg1w).trans m1w
      have lg1 : g1 < w6.heap.size := by omega
      have m2 := (hbl.cell (p := ⟨g2, o2 + k, none⟩) lg2w).trans m2w
      have lg2 : g2 < w6.heap.size := by omega
      clear hbl
      repeat (first | ((with_reducible refine wpD_p (fun K hK => ?_)); go_simp; refine hK _ ?_; clear hK K) | ((with_reducible refine wpD_q (fun K hK => ?_)); go_simp; (first | refine hK _ ?_ | (go_bits; refine hK _ ?_) | (go_bits; go_simp; refine hK _ ?_)); clear hK K))
      with_reducible refine wpD_g (fun KK hKK => ?_)
      go_simp
      refine (PartsOne_any (hD2H.out.below RPl.stable hP.out.bel) (by omega) honeH.out).mono ?_
      rintro e w7 ⟨A7, c7, rfl, hb7⟩
      refine ⟨_, rfl, hb7, hKK _ _ ?_⟩
      clear hKK KK
      replace hP := Lib.hid (hP.out.below hb7)
      clear hb7
      clear y3 l3 y6 f6 l6 m1 lg1 m2 lg2 hszl
      have hbl := hP.out.bel
      have hszl := hbl.size
      have y3 := (hbl.cell (p := ⟨b3, 0, none⟩) l3w).trans y3w
      have l3 : b3 < w7.heap.size := by omega
      have y6 := hP.out.box.cell 0 _ rfl
      have f6 := hP.out.box.froz 0
      have l6 := hP.out.box.lt
      have m1 := (hbl.cell (p := ⟨g1, o1 + k, none⟩) lg1w).trans m1w
      have lg1 : g1 < w7.heap.size := by omega
      have m2 := (hbl.cell (p := ⟨g2, o2 + k, none⟩) lg2w).trans m2w
      have lg2 : g2 < w7.heap.size := by omega
      clear hbl
      repeat (first | ((with_reducible refine wpD_p (fun K hK => ?_)); go_simp; refine hK _ ?_; clear hK K) | ((with_reducible refine wpD_q (fun K hK => ?_)); go_simp; (first | refine hK _ ?_ | (go_bits; refine hK _ ?_) | (go_bits; go_simp; refine hK _ ?_)); clear hK K))
      with_reducible refine wpD_nil ?_
      go_wp2_with fail
      have hP7 := hP
      refine wp_region_fl 9 [(0, .q), (1, .q), (2, .q), (3, .q), (4, .q), (5, .g), (6, .q), (7, .q), (8, .p)] [(10, .b), (11, .q)] _ (Obj.cells #[.slice none 0 0] 26) (by kernel_rfl) (by kernel_rfl) (by kernel_rfl) (by kernel_rfl) rfl (fun a w => ⟨rfl, by unfold flPtr; go_simp⟩) ?_
      simp only [pick, List.filterMap_cons, List.filterMap_nil, List.getElem?_toArray, List.getElem?_cons_zero, List.getElem?_cons_succ, Option.map_some]
      repeat (first | ((with_reducible refine wpL_p (fun K hK => ?_)); go_simp; refine hK _ ?_; clear hK K) | ((with_reducible refine wpL_q (fun K hK => ?_)); go_simp; (first | refine hK _ ?_ | (go_bits; refine hK _ ?_) | (go_bits; go_simp; refine hK _ ?_)); clear hK K))
      with_reducible refine wpL_g rfl (fun KK hKK st4 u4 mv4 => ?_)
      have hu4 := mv4.below
      have fu4 := (FlAt.none (Obj.cells #[.slice none 0 0] 26) (World.drew w7)).mv mv4
      clear mv4
      have hb6u : b6 + 1 ≤ u4.heap.size := by have := hu4.size; simp at this; omega
      have j4 : Below w7.heap.size w7 u4 := (bl_dr (bl_refl w7)).trans (hu4.mono (Nat.le_refl _))
      replace hP := Lib.hid (hP7.out.below j4)
      clear hu4
      go_simp
      refine (JoinAssemblies_any (Z := subX xs (uptoQ xs (k + 1))) (N := K') hP.out.un (hD2H.out.below RPl.stable hP.out.bel) hfU.out hfLH.out htwo.out hn20 hjn.out hK'H.out hK5').mono ?_
      rintro e w8 ⟨D, cD, rfl, hown8, hb8⟩
      refine ⟨_, rfl, hb8, hKK _ _ _ ?_⟩
      clear hKK KK
      have fd5 := fu4.below hb8
      have j5 : Below w7.heap.size w7 w8 := j4.trans (hb8.mono j4.size)
      have hown8 := Lib.hid hown8
      clear hb8 fu4 hP
      clear y3 l3 y6 f6 l6 m1 lg1 m2 lg2 hszl
      repeat (first | ((with_reducible refine wpL_p (fun K hK => ?_)); go_simp; refine hK _ ?_; clear hK K) | ((with_reducible refine wpL_q (fun K hK => ?_)); go_simp; (first | refine hK _ ?_ | (go_bits; refine hK _ ?_) | (go_bits; go_simp; refine hK _ ?_)); clear hK K))
      with_reducible refine wpL_nil (fun b8 w9 mvF => ?_)
      have huF := mvF.below
      obtain ⟨fl9, fb9⟩ := (fd5.mv mvF).2 _ rfl
      have j8 : Below w7.heap.size w7 w9 := j5.trans (huF.mono j5.size)
      clear mvF fd5
      simp only [World.size_drew] at fl9
      have rF : w9.rowIs b8 26 1 (fun i => (#[.slice none 0 0] : Array Value).getD i undef) := ⟨_, fb9, rfl, fun i hi => by simp [hi]⟩
      have f0 : w9.cell? ⟨b8, 0, none⟩ = some (.slice none 0 0) := rF.cell (i := 0) (by decide)
      have f1 : w9.frozen? ⟨b8, 0, none⟩ = false := rF.frozen 0
      have lF : b8 < w9.heap.size := (Array.getElem?_eq_some_iff.1 fb9).1
      have hown9 := ownsRow_below hown8.out huF
      have hneF := own_ne_row hown9 rF (by decide)
      have hown10 := Lib.hid (ownsRow_setCell_other hown9 (a := ⟨b8, 0, none⟩) hneF (.slice D K' cD))
      have bN0 : Bx w9 b8 [.slice none 0 0] := ⟨lF, fun j u hu => by
        cases j with
        | zero => simp at hu; subst hu; exact f0
        | succ j => simp at hu, fun j => rF.frozen j⟩
      have bN := Lib.hid (bN0.setSame 0 (.slice D K' cD))
      have hP := Lib.hid (hP7.out.below (j8.setCell (p := ⟨b8, 0, none⟩) fl9 (.slice D K' cD)))
      clear huF j4 j5 j8 fb9 rF hown9 hown8 hneF bN0
      simp only [flPtr]
      with_reducible refine wpD_b (fun K hK => ?_)
      go_simp
      refine hK _ _ ?_
      clear hK K
      repeat (first | ((with_reducible refine wpD_p (fun K hK => ?_)); go_simp; refine hK _ ?_; clear hK K) | ((with_reducible refine wpD_q (fun K hK => ?_)); go_simp; (first | refine hK _ ?_ | (go_bits; refine hK _ ?_) | (go_bits; go_simp; refine hK _ ?_)); clear hK K))
      with_reducible refine wpD_nil ?_
      obtain ⟨wn, hwn⟩ : ∃ z, z = w9.setCell ⟨b8, 0, none⟩ (.slice D K' cD) := ⟨_, rfl⟩
      rw [← hwn] at hown10 bN hP ⊢
      have hQ0 := Lib.hid (QSt.mk hP.out bN.out (own_baseP hown10.out hb6u))
      clear hwn hown10 f0 f1 lF fl9 hP7
      have yn := bN.out.cell 0 _ rfl
      have ln := bN.out.lt
      have hbl := hP.out.bel
      have hszl := hbl.size
      have y3 := (hbl.cell (p := ⟨b3, 0, none⟩) l3w).trans y3w
      have l3 : b3 < wn.heap.size := by omega
      have y6 := hP.out.box.cell 0 _ rfl
      have f6 := hP.out.box.froz 0
      have l6 := hP.out.box.lt
      have m1 := (hbl.cell (p := ⟨g1, o1 + k, none⟩) lg1w).trans m1w
      have lg1 : g1 < wn.heap.size := by omega
      have m2 := (hbl.cell (p := ⟨g2, o2 + k, none⟩) lg2w).trans m2w
      have lg2 : g2 < wn.heap.size := by omega
      clear hbl
      go_wp2_with fail
      refine wp_region_ord [(0, .q), (1, .q), (2, .q), (3, .q), (4, .q), (5, .q), (6, .q), (7, .q), (8, .q), (9, .q), (10, .q), (11, .q), (12, .q), (13, .q), (14, .q), (15, .q), (16, .q), (17, .q)] (by kernel_rfl) (by kernel_rfl) ?_
      simp only [pick, List.filterMap_cons, List.filterMap_nil, List.getElem?_toArray, List.getElem?_cons_zero, List.getElem?_cons_succ, Option.map_some]
      repeat (first
        | ((with_reducible refine wpD_p (fun K hK => ?_)); go_simp; refine hK _ ?_; clear hK K)
        | ((with_reducible refine wpD_q (fun K hK => ?_)); go_simp; (first | refine hK _ ?_ | (go_bits; refine hK _ ?_) | (go_bits; go_simp; refine hK _ ?_)); clear hK K)
        | ((with_reducible refine wpD_g (fun K hK => ?_)); go_simp; refine hK _ _ ?_; clear hK K)
        | ((with_reducible refine wpD_g (fun K hK => ?_)); go_simp; refine ⟨Grew.of_alloc _, hK _ _ ?_⟩; clear hK K))
      with_reducible refine wpD_nil ?_
      clear y3 l3 y6 f6 l6 m1 lg1 m2 lg2 hszl
      have hQ1 := Lib.hid (hQ0.out.below (bl_dr (bl_refl wn)))
      clear yn ln bN hP hQ0 hwK hown8
      obtain ⟨wl, hwl⟩ : ∃ z, z = wn.drew := ⟨_, rfl⟩
      rw [← hwl] at hQ1 ⊢
      clear hwl
      obtain ⟨gd, od, rfl, lgdw, hcw⟩ := hD2H.out.ptr (by omega)
      have hcH := Lib.hid hcw
      have hn2L := Lib.hid hD2H.out.len
      clear hcw
      go_wp2_with fail
      go_loopg [10] n2 (fun gg j wr => ∃ t : Nat, t + gg = n2 ∧ j = .int .i64 (t : Int) ∧ Hid (QSt w4 b6 B K cB (subX xs (uptoQ xs k)) b8 D K' cD (subX xs (uptoQ xs (k + 1))) wr))
      case atStart => exact ⟨0, by omega, rfl, hQ1⟩
      case round =>
        clear hQ1
        obtain ⟨t, ht, rfl, hQ⟩ := hrel
        have hP := Lib.hid hQ.out.pst
        have hbl := hP.out.bel
        have hszl := hbl.size
        have y3 := (hbl.cell (p := ⟨b3, 0, none⟩) l3w).trans y3w
        have l3 : b3 < wr.heap.size := by omega
        have y6 := hP.out.box.cell 0 _ rfl
        have f6 := hP.out.box.froz 0
        have l6 := hP.out.box.lt
        have m1 := (hbl.cell (p := ⟨g1, o1 + k, none⟩) lg1w).trans m1w
        have lg1 : g1 < wr.heap.size := by omega
        have m2 := (hbl.cell (p := ⟨g2, o2 + k, none⟩) lg2w).trans m2w
        have lg2 : g2 < wr.heap.size := by omega
        clear hbl
        by_cases htn : t < n2
        · have htI : (t : Int) < (n2 : Int) := by omega
          obtain ⟨e, he⟩ : ∃ e, L[t]? = some e := ⟨_, List.getElem?_eq_getElem (by rw [hn2L.out]; exact htn)⟩
          obtain ⟨p0w, p1w, p2w⟩ := hcH.out t e he
          have hvp := Lib.hid (validPt_of ((form_valid hfLH.out).pt t e he))
          have hem := Lib.hid (show e ∈ subX xs (isQ xs k) by rw [hLH.out]; exact List.mem_of_getElem? he)
          clear he
          go_wp2_with fail
          go_loopg [11] 4 (fun gg j wr => ∃ d : Nat, d + gg = 4 ∧ j = .int .i64 (d : Int) ∧ Hid (QSt w4 b6 B K cB (subX xs (uptoQ xs k)) b8 D K' cD (subX xs (uptoQ xs (k + 1))) wr))
          case atStart => exact ⟨0, by omega, rfl, hQ⟩
          case round =>
            clear hQ hP
            clear y3 l3 y6 f6 l6 m1 lg1 m2 lg2 hszl
            obtain ⟨d, hd, rfl, hQ⟩ := hrel
            have hP := Lib.hid hQ.out.pst
            have hbl := hP.out.bel
            have hszl := hbl.size
            have y3 := (hbl.cell (p := ⟨b3, 0, none⟩) l3w).trans y3w
            have l3 : b3 < wr.heap.size := by omega
            have y6 := hP.out.box.cell 0 _ rfl
            have f6 := hP.out.box.froz 0
            have l6 := hP.out.box.lt
            have m1 := (hbl.cell (p := ⟨g1, o1 + k, none⟩) lg1w).trans m1w
            have lg1 : g1 < wr.heap.size := by omega
            have m2 := (hbl.cell (p := ⟨g2, o2 + k, none⟩) lg2w).trans m2w
            have lg2 : g2 < wr.heap.size := by omega
            clear hbl
            by_cases hd4 : d < 4
            · have hdI : (d : Int) < 4 := by omega
              have hbl := hP.out.bel
              have p0 := (hbl.cell (p := ⟨gd, od + t * 3, none⟩) lgdw).trans p0w
              have p1 := (hbl.cell (p := ⟨gd, od + t * 3 + 1, none⟩) lgdw).trans p1w
              have lgd : gd < wr.heap.size := by omega
              have hdB := Lib.hid (show inB (d : Int) 0 3 = true from inB_true.2 (by omega))
              obtain ⟨X, hX⟩ : ∃ X, stepX e.x (d : Int) = X := ⟨_, rfl⟩
              obtain ⟨Y, hY⟩ : ∃ Y, stepY e.y (d : Int) = Y := ⟨_, rfl⟩
              have hXH := Lib.hid hX
              have hYH := Lib.hid hY
              have hpn := Lib.hid (show decide (0 ≤ atI L X Y) = decide (0 ≤ atI xs X Y) by rw [← hX, ← hY, ← hLH.out]; exact part_near hfH.out hd4 hem.out)
              clear hbl hX hY
              cases hv : validPt X Y
              · have hvH := Lib.hid hv
                clear hv
                obtain ⟨v1, hv1⟩ : ∃ v, decide (0 ≤ atI L 0 0) = v := ⟨_, rfl⟩
                obtain ⟨v2, hv2⟩ : ∃ v, decide (0 ≤ atI xs 0 0) = v := ⟨_, rfl⟩
                have hv1H := Lib.hid hv1
                have hv2H := Lib.hid hv2
                clear hv1 hv2
                go_wp2_with fail
                refine (lStep_far _ hvp.out hdB.out hvH.out hXH.out hYH.out).mono ?_
                rintro _ w11 ⟨rfl, hb11⟩
                -- both look-ups at the point, behind the step
                replace hQ := Lib.hid (hQ.out.below hb11)
                replace hP := Lib.hid hQ.out.pst
                clear y3 l3 y6 f6 l6 m1 lg1 m2 lg2 hszl
                clear hb11 p0 p1 lgd
                have hbl := hP.out.bel
                have hszl := hbl.size
                have y3 := (hbl.cell (p := ⟨b3, 0, none⟩) l3w).trans y3w
                have l3 : b3 < w11.heap.size := by omega
                have y6 := hP.out.box.cell 0 _ rfl
                have f6 := hP.out.box.froz 0
                have l6 := hP.out.box.lt
                have m1 := (hbl.cell (p := ⟨g1, o1 + k, none⟩) lg1w).trans m1w
                have lg1 : g1 < w11.heap.size := by omega
                have m2 := (hbl.cell (p := ⟨g2, o2 + k, none⟩) lg2w).trans m2w
                have lg2 : g2 < w11.heap.size := by omega
                clear hbl
                go_wp2_with fail
                obtain ⟨b12, hb12e⟩ : ∃ b, w11.heap.size = b := ⟨_, rfl⟩
                obtain ⟨wx, hwx⟩ : ∃ z, z = w11.alloc (Obj.cells #[.int .i64 0, .int .i64 0] 34) := ⟨_, rfl⟩
                have bP0 : Bx wx w11.heap.size [.int .i64 0, .int .i64 0] := by rw [hwx]; exact Bx.made w11 [.int .i64 0, .int .i64 0] _
                have hbx : Below w11.heap.size w11 wx := by rw [hwx]; exact bl_al (bl_refl _) _
                rw [← hwx]
                try simp only [hb12e]
                rw [hb12e] at bP0
                replace hQ := Lib.hid (hQ.out.below hbx)
                replace hP := Lib.hid hQ.out.pst
                have bP := Lib.hid bP0
                clear hwx hbx hb12e bP0
                clear y3 l3 y6 f6 l6 m1 lg1 m2 lg2 hszl
                have hbl := hP.out.bel
                have hszl := hbl.size
                have y3 := (hbl.cell (p := ⟨b3, 0, none⟩) l3w).trans y3w
                have l3 : b3 < wx.heap.size := by omega
                have y6 := hP.out.box.cell 0 _ rfl
                have f6 := hP.out.box.froz 0
                have l6 := hP.out.box.lt
                have m1 := (hbl.cell (p := ⟨g1, o1 + k, none⟩) lg1w).trans m1w
                have lg1 : g1 < wx.heap.size := by omega
                have m2 := (hbl.cell (p := ⟨g2, o2 + k, none⟩) lg2w).trans m2w
                have lg2 : g2 < wx.heap.size := by omega
                clear hbl
                have x0 := bP.out.cell 0 _ rfl
                have x1 := bP.out.cell 1 _ rfl
                have lx := bP.out.lt
                refine wp_region_ord [(0, .q), (1, .q), (2, .q), (3, .q), (4, .q), (5, .g), (6, .q), (7, .q), (8, .q), (9, .q), (10, .q)] (by kernel_rfl) (by kernel_rfl) ?_
                simp only [pick, List.filterMap_cons, List.filterMap_nil, List.getElem?_toArray, List.getElem?_cons_zero, List.getElem?_cons_succ, Option.map_some]
                replace hQ := Lib.hid (hQ.out.below (bl_dr (bl_refl wx)))
                replace hP := Lib.hid hQ.out.pst
                replace bP := Lib.hid (bP.out.below (bl_dr (bl_refl wx)))
                repeat (first | ((with_reducible refine wpD_p (fun K hK => ?_)); go_simp; refine hK _ ?_; clear hK K) | ((with_reducible refine wpD_q (fun K hK => ?_)); go_simp; (first | refine hK _ ?_ | (go_bits; refine hK _ ?_) | (go_bits; go_simp; refine hK _ ?_)); clear hK K))
                with_reducible refine wpD_g (fun KK hKK => ?_)
                go_simp
                refine (TileAt_any (hD2H.out.below RPl.stable hP.out.bel) hfLH.out hv1H.out).mono ?_
                rintro _ w12 ⟨⟨k1, rfl⟩, hb⟩
                refine ⟨_, rfl, hb, hKK _ _ ?_⟩
                clear hKK KK
                replace hQ := Lib.hid (hQ.out.below hb)
                replace hP := Lib.hid hQ.out.pst
                replace bP := Lib.hid (bP.out.below hb)
                clear hb x0 x1 lx
                clear y3 l3 y6 f6 l6 m1 lg1 m2 lg2 hszl
                have hbl := hP.out.bel
                have hszl := hbl.size
                have y3 := (hbl.cell (p := ⟨b3, 0, none⟩) l3w).trans y3w
                have l3 : b3 < w12.heap.size := by omega
                have y6 := hP.out.box.cell 0 _ rfl
                have f6 := hP.out.box.froz 0
                have l6 := hP.out.box.lt
                have m1 := (hbl.cell (p := ⟨g1, o1 + k, none⟩) lg1w).trans m1w
                have lg1 : g1 < w12.heap.size := by omega
                have m2 := (hbl.cell (p := ⟨g2, o2 + k, none⟩) lg2w).trans m2w
                have lg2 : g2 < w12.heap.size := by omega
                clear hbl
                have x0 := bP.out.cell 0 _ rfl
                have x1 := bP.out.cell 1 _ rfl
                have lx := bP.out.lt
                repeat (first | ((with_reducible refine wpD_p (fun K hK => ?_)); go_simp; refine hK _ ?_; clear hK K) | ((with_reducible refine wpD_q (fun K hK => ?_)); go_simp; (first | refine hK _ ?_ | (go_bits; refine hK _ ?_) | (go_bits; go_simp; refine hK _ ?_)); clear hK K))
                with_reducible refine wpD_nil ?_
                go_wp2_with fail
                refine (TileAt_any (hX4.out.below RPl.stable hP.out.bel) hfH.out hv2H.out).mono ?_
                rintro _ w13 ⟨⟨k2, rfl⟩, hb⟩
                replace hQ := Lib.hid (hQ.out.below hb)
                clear hb x0 x1 lx bP hP
                clear y3 l3 y6 f6 l6 m1 lg1 m2 lg2 hszl
                go_wp2
                go_roundg (4 - (d + 1))
                case measure => omega
                case rel => exact ⟨d + 1, by omega, by go_num, hQ⟩
              · have hvH := Lib.hid hv
                clear hv
                obtain ⟨v1, hv1⟩ : ∃ v, decide (0 ≤ atI xs X Y) = v := ⟨_, rfl⟩
                have hv1H := Lib.hid hv1
                clear hv1
                go_wp2_with fail
                refine (lStep_ok _ hvp.out hdB.out hvH.out hXH.out hYH.out).mono ?_
                rintro _ w11 ⟨rfl, hb11⟩
                -- both look-ups at the point, behind the step
                replace hQ := Lib.hid (hQ.out.below hb11)
                replace hP := Lib.hid hQ.out.pst
                clear y3 l3 y6 f6 l6 m1 lg1 m2 lg2 hszl
                clear hb11 p0 p1 lgd
                have hbl := hP.out.bel
                have hszl := hbl.size
                have y3 := (hbl.cell (p := ⟨b3, 0, none⟩) l3w).trans y3w
                have l3 : b3 < w11.heap.size := by omega
                have y6 := hP.out.box.cell 0 _ rfl
                have f6 := hP.out.box.froz 0
                have l6 := hP.out.box.lt
                have m1 := (hbl.cell (p := ⟨g1, o1 + k, none⟩) lg1w).trans m1w
                have lg1 : g1 < w11.heap.size := by omega
                have m2 := (hbl.cell (p := ⟨g2, o2 + k, none⟩) lg2w).trans m2w
                have lg2 : g2 < w11.heap.size := by omega
                clear hbl
                go_wp2_with fail
                obtain ⟨b12, hb12e⟩ : ∃ b, w11.heap.size = b := ⟨_, rfl⟩
                obtain ⟨wx, hwx⟩ : ∃ z, z = w11.alloc (Obj.cells #[.int .i64 X, .int .i64 Y] 34) := ⟨_, rfl⟩
                have bP0 : Bx wx w11.heap.size [.int .i64 X, .int .i64 Y] := by rw [hwx]; exact Bx.made w11 [.int .i64 X, .int .i64 Y] _
                have hbx : Below w11.heap.size w11 wx := by rw [hwx]; exact bl_al (bl_refl _) _
                rw [← hwx]
                try simp only [hb12e]
                rw [hb12e] at bP0
                replace hQ := Lib.hid (hQ.out.below hbx)
                replace hP := Lib.hid hQ.out.pst
                have bP := Lib.hid bP0
                clear hwx hbx hb12e bP0
                clear y3 l3 y6 f6 l6 m1 lg1 m2 lg2 hszl
                have hbl := hP.out.bel
                have hszl := hbl.size
                have y3 := (hbl.cell (p := ⟨b3, 0, none⟩) l3w).trans y3w
                have l3 : b3 < wx.heap.size := by omega
                have y6 := hP.out.box.cell 0 _ rfl
                have f6 := hP.out.box.froz 0
                have l6 := hP.out.box.lt
                have m1 := (hbl.cell (p := ⟨g1, o1 + k, none⟩) lg1w).trans m1w
                have lg1 : g1 < wx.heap.size := by omega
                have m2 := (hbl.cell (p := ⟨g2, o2 + k, none⟩) lg2w).trans m2w
                have lg2 : g2 < wx.heap.size := by omega
                clear hbl
                have x0 := bP.out.cell 0 _ rfl
                have x1 := bP.out.cell 1 _ rfl
                have lx := bP.out.lt
                refine wp_region_ord [(0, .q), (1, .q), (2, .q), (3, .q), (4, .q), (5, .g), (6, .q), (7, .q), (8, .q), (9, .q), (10, .q)] (by kernel_rfl) (by kernel_rfl) ?_
                simp only [pick, List.filterMap_cons, List.filterMap_nil, List.getElem?_toArray, List.getElem?_cons_zero, List.getElem?_cons_succ, Option.map_some]
                replace hQ := Lib.hid (hQ.out.below (bl_dr (bl_refl wx)))
                replace hP := Lib.hid hQ.out.pst
                replace bP := Lib.hid (bP.out.below (bl_dr (bl_refl wx)))
                repeat (first | ((with_reducible refine wpD_p (fun K hK => ?_)); go_simp; refine hK _ ?_; clear hK K) | ((with_reducible refine wpD_q (fun K hK => ?_)); go_simp; (first | refine hK _ ?_ | (go_bits; refine hK _ ?_) | (go_bits; go_simp; refine hK _ ?_)); clear hK K))
                with_reducible refine wpD_g (fun KK hKK => ?_)
                go_simp
                refine (TileAt_any (hD2H.out.below RPl.stable hP.out.bel) hfLH.out (hpn.out.trans hv1H.out)).mono ?_
                rintro _ w12 ⟨⟨k1, rfl⟩, hb⟩
                refine ⟨_, rfl, hb, hKK _ _ ?_⟩
                clear hKK KK
                replace hQ := Lib.hid (hQ.out.below hb)
                replace hP := Lib.hid hQ.out.pst
                replace bP := Lib.hid (bP.out.below hb)
                clear hb x0 x1 lx
                clear y3 l3 y6 f6 l6 m1 lg1 m2 lg2 hszl
                have hbl := hP.out.bel
                have hszl := hbl.size
                have y3 := (hbl.cell (p := ⟨b3, 0, none⟩) l3w).trans y3w
                have l3 : b3 < w12.heap.size := by omega
                have y6 := hP.out.box.cell 0 _ rfl
                have f6 := hP.out.box.froz 0
                have l6 := hP.out.box.lt
                have m1 := (hbl.cell (p := ⟨g1, o1 + k, none⟩) lg1w).trans m1w
                have lg1 : g1 < w12.heap.size := by omega
                have m2 := (hbl.cell (p := ⟨g2, o2 + k, none⟩) lg2w).trans m2w
                have lg2 : g2 < w12.heap.size := by omega
                clear hbl
                have x0 := bP.out.cell 0 _ rfl
                have x1 := bP.out.cell 1 _ rfl
                have lx := bP.out.lt
                repeat (first | ((with_reducible refine wpD_p (fun K hK => ?_)); go_simp; refine hK _ ?_; clear hK K) | ((with_reducible refine wpD_q (fun K hK => ?_)); go_simp; (first | refine hK _ ?_ | (go_bits; refine hK _ ?_) | (go_bits; go_simp; refine hK _ ?_)); clear hK K))
                with_reducible refine wpD_nil ?_
                go_wp2_with fail
                refine (TileAt_any (hX4.out.below RPl.stable hP.out.bel) hfH.out hv1H.out).mono ?_
                rintro _ w13 ⟨⟨k2, rfl⟩, hb⟩
                replace hQ := Lib.hid (hQ.out.below hb)
                clear hb x0 x1 lx bP hP
                clear y3 l3 y6 f6 l6 m1 lg1 m2 lg2 hszl
                go_wp2
                go_roundg (4 - (d + 1))
                case measure => omega
                case rel => exact ⟨d + 1, by omega, by go_num, hQ⟩
            · obtain rfl : d = 4 := by omega
              go_wp2
              go_roundg (n2 - (t + 1))
              case measure => omega
              case rel => exact ⟨t + 1, by omega, by go_num, hQ⟩
        · obtain rfl : t = n2 := by omega
          have htI : ¬ (t : Int) < (t : Int) := by omega
          have yn := hQ.out.bn.cell 0 _ rfl
          have ln := hQ.out.bn.lt
          go_wp2
          go_roundg (M - (k + 1))
          case measure => omega
          case rel => exact ⟨k + 1, D, K', cD, by omega, by go_num, Lib.hid ⟨hP.out.bel.setCell (p := ⟨b6, 0, none⟩) hb6l _, hP.out.box.setSame 0 _, rdPl_own (ownsRow_setCell_below hQ.out.dr (a := ⟨b6, 0, none⟩) (Nat.lt_succ_self _) _) hK'H.out⟩⟩
    · obtain rfl : k = M := by omega
      have hkI : ¬ (k : Int) < (k : Int) := by omega
      have y6 := hP.out.box.cell 0 _ rfl
      have l6 := hP.out.box.lt
      have hbl := hP.out.bel
      have hszl := hbl.size
      have y3 := (hbl.cell (p := ⟨b3, 0, none⟩) l3w).trans y3w
      have l3 : b3 < wr.heap.size := by omega
      have hbF := Lib.hid (hbw4.out.trans (hbl.mono hbw4.out.size))
      clear hbl
      by_cases hM0 : k = 0
      · subst hM0
        go_wp2
        go_ret
        exact ⟨rfl, hbF.out⟩
      · have hM0I : ¬ (k : Int) = 0 := by omega
        have hf : hasFormB xs = true := by
          cases hf : hasFormB xs
          · have h1 := hPH.out
            have h2 := hMH.out
            unfold partsR at h1
            rw [hf, if_neg (by simp)] at h1
            rw [← h1] at h2
            simp at h2
            omega
          · rfl
        have hPQ : partsQ xs = P := by have h1 := hPH.out; unfold partsR at h1; rw [if_pos hf] at h1; exact h1
        have hcnt : k = cntX xs := by rw [← hMH.out, ← hPQ, partsQ_cnt]
        have hU : subX xs (uptoQ xs k) = xs := by rw [hcnt]; exact upto_all xs
        have hun := hP.out.un
        rw [hU] at hun
        have hunH := Lib.hid hun
        have hf5 := form_len hf
        have hX5 := Lib.hid (hX4.out.below RPl.stable hP.out.bel)
        clear hPQ hcnt hU hun hf
        go_wp2_with fail
        refine (SameAsm_at hunH.out hX5.out (by omega)).mono ?_
        rintro _ w20 ⟨rfl, hb⟩
        have hbF2 := Lib.hid (hbF.out.trans (hb.mono hbF.out.size))
        clear hb
        go_wp2
        go_ret
        exact ⟨rfl, hbF2.out⟩
end Go.Proofs.Ytpnahobgmemdjaa
