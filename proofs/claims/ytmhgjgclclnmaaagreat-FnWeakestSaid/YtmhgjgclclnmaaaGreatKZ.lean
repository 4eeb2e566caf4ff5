import Derived.Test.YtmhgjgclclnmaaaGreatKR
import Derived.Test.YtmhgjgclclnmaaaGreatKD
import Derived.Test.YtmhgjgclclnmaaaGreatKH
import Derived.Deep.CutRange
import Derived.Laws.OwnMore
set_option linter.unusedSimpArgs false
set_option linter.unusedVariables false
/- Words for the law on weakest cuts: the contracts in the form that its walk asks. -/



namespace Go.Proofs.YtmhgjgclclnmaaaGreat
open Go.RowKit Go.Shelf

/-- the weakest cut's part is a class of its strength -/
theorem weak_idx {n : Nat} {bs : List Bd} (hb : BondsOk n bs) (h2 : 2 ≤ n) : ∃ c : Nat → Bool, intsI (weakR n bs).2 = idxL c n ∧ sumB (keepLC (idxL c n) bs bs.length) = (weakR n bs).1 := by
  obtain ⟨y, _, _, _, hw, hc, _, _⟩ := weakR_at hb h2
  refine ⟨weakC n bs y, ?_, ?_⟩
  · rw [hw]
    exact lead_idx n _ y n
  · rw [sum_cut hb _ _ (Nat.le_refl _)]
    exact hc
/-- no drawn part has a weaker cut, unless it is none or all -/
theorem drawn_ge {n : Nat} {bs : List Bd} (hb : BondsOk n bs) (h2 : 2 ≤ n) (c : Nat → Bool) (h0 : 0 < (idxL c n).length) (h1 : (idxL c n).length < n) : (weakR n bs).1 ≤ sumB (keepLC (idxL c n) bs bs.length) := by
  rw [sum_cut hb _ _ (Nat.le_refl _)]
  refine weak_least hb h2 ?_ ?_
  · obtain ⟨v, hv⟩ : ∃ v, (idxL c n)[0]? = some v := ⟨_, List.getElem?_eq_getElem h0⟩
    obtain ⟨x, _, hx, hc, _⟩ := idxL_get hv
    exact ⟨x, hx, hc⟩
  · rcases Classical.em (∃ v, v < n ∧ c v = false) with h | h
    · exact h
    · exfalso
      have hall : ∀ k, k ≤ n → (idxL c k).length = k := by
        intro k
        induction k with
        | zero => intro _; rfl
        | succ k ih =>
          intro hk
          have hck : c k = true := by
            cases hc : c k
            · exact (h ⟨k, by omega, hc⟩).elim
            · rfl
          rw [idxL_yes hck, List.length_append, ih (by omega)]
          rfl
      have := hall n (Nat.le_refl _)
      omega
def WeakOk (w : World) (V : Int) (N : Nat) (l : List Int) (cd : Int) (e : Ending) (w' : World) : Prop := ∃ A c, e = .returned (.tuple #[.int .i64 V, .slice A N c, .int .i64 cd]) ∧ RdSl 1 RInt w' A N l ∧ Below w.heap.size w w'
theorem FluxRes.weak {w w' : World} {e : Ending} {V : Int} {l : List Int} {cd : Int} {N : Nat} (hN : l.length = N) (h : FluxRes w (V, l, cd) e w') : WeakOk w V N l cd e w' := by
  subst hN
  obtain ⟨A, c, rfl, ho, hb⟩ := h
  dsimp only at ho ⊢
  obtain ⟨A2, c2, he, hR⟩ := rdI_of ho
  injection he with e1 e2 e3
  subst e1
  exact ⟨A, c, rfl, hR, hb⟩
section
variable {G T A : Option Addr} {n cg m ct q ca : Nat} {gs : List Gl} {ts : List Ti} {xs : List Pl} {w : World} {V : Int} {N : Nat} {l : List Int}
theorem iWeak (h : SA w G n T m A q gs ts xs) (hv : validAsmB gs ts xs = true) (h2 : 2 ≤ q) (h64 : q ≤ 64) (hV : (weakR q (bondsL gs ts xs)).1 = V) (hl : intsI (weakR q (bondsL gs ts xs)).2 = l) (hN : l.length = N) :
    Calls Tryz.prog 34 #[.agg #[.slice G n cg, .slice T m ct], .agg #[.slice A q ca]] w (WeakOk w V N l 0) := by
  have hq := h.A.len
  subst hq
  have hr := weakCutR_yes hv (by omega) (by omega)
  have hc := WeakestCut_any G T A n cg m ct xs.length ca gs ts xs w h
  rw [← hr, hV, hl] at hc
  exact hc.mono fun e w' h => FluxRes.weak hN h
theorem sWeak (h : SA w G n T m A q gs ts xs) (hv : validAsmB gs ts xs = true) (h2 : 2 ≤ q) (h64 : q ≤ 64) (hV : (weakR q (bondsL gs ts xs)).1 = V) (hl : intsI (weakR q (bondsL gs ts xs)).2 = l) (hN : l.length = N) :
    Calls Tryz.prog 35 #[.agg #[.slice G n cg, .slice T m ct], .agg #[.slice A q ca]] w (WeakOk w V N l 0) := by
  have hq := h.A.len
  subst hq
  have hr := weakCutR_yes hv (by omega) (by omega)
  have hc := sWeakestCut_any G T A n cg m ct xs.length ca gs ts xs w h
  rw [← hr, hV, hl] at hc
  exact hc.mono fun e w' h => FluxRes.weak hN h
theorem iWeakF (h : SA w G n T m A q gs ts xs) (hv : validAsmB gs ts xs = true) (h2 : q < 2) :
    Calls Tryz.prog 34 #[.agg #[.slice G n cg, .slice T m ct], .agg #[.slice A q ca]] w (WeakOk w 0 0 [] 3) := by
  have hq := h.A.len
  subst hq
  have hr := weakCutR_few hv h2
  have hc := WeakestCut_any G T A n cg m ct xs.length ca gs ts xs w h
  rw [← hr] at hc
  exact hc.mono fun e w' h => FluxRes.weak rfl h
theorem sWeakF (h : SA w G n T m A q gs ts xs) (hv : validAsmB gs ts xs = true) (h2 : q < 2) :
    Calls Tryz.prog 35 #[.agg #[.slice G n cg, .slice T m ct], .agg #[.slice A q ca]] w (WeakOk w 0 0 [] 3) := by
  have hq := h.A.len
  subst hq
  have hr := weakCutR_few hv h2
  have hc := sWeakestCut_any G T A n cg m ct xs.length ca gs ts xs w h
  rw [← hr] at hc
  exact hc.mono fun e w' h => FluxRes.weak rfl h
theorem iStab {t : Nat} {b : Bool} (h : SA w G n T m A q gs ts xs) (hv : validAsmB gs ts xs = true) (h64 : q ≤ 64) (ht1 : 1 ≤ t) (ht : t ≤ 16) (hb : holdsB q (bondsL gs ts xs) t = b) :
    Calls Tryz.prog 36 #[.agg #[.slice G n cg, .slice T m ct], .agg #[.slice A q ca], .int .i64 (t : Int)] w fun e w' => e = .returned (.tuple #[.bool b, .int .i64 0]) ∧ Below w.heap.size w w' := by
  have hq := h.A.len
  subst hq
  have htb : tempB (t : Int) = true := inB_true.2 (by omega)
  have hr : isStabR gs ts xs (t : Int) = (b, 0) := by rw [← isStabR_yes hv htb, stabR_small (bondsOk (valid_of hv)) h64, hb]
  have hc := IsStable_any G T A n cg m ct xs.length ca gs ts xs (t : Int) w h
  rw [hr] at hc
  exact hc
end
end Go.Proofs.YtmhgjgclclnmaaaGreat
/- Walk: the law on weakest cuts. Printed by gen_dr13.py. -/






namespace Go.Proofs.YtmhgjgclclnmaaaGreat
open Go.RowKit
attribute [local go_sem] BelowBy.cell BelowBy.cell_drew stillUpon givesUpon

theorem picks2W {C : Option Addr} {n c m : Nat} {bs : List Nat} {w : World} (h : RdSl 1 RBy w C n bs) (hn : n ≤ 1000000) (hm : m ≤ 1000) :
    Calls Tryz.prog 9 #[.slice C n c, .int .i64 (m : Int), .int .i64 2] w fun e w' => ∃ (v : Value) (l : List Int), e = .returned v ∧ w'.ownsRow w.heap.size 2 1 v m (l.map (Value.int .i64)) ∧ l.length = m ∧ (∀ x ∈ l, 0 ≤ x ∧ x < 2) ∧ Below w.heap.size w w' := by
  refine (LawPicks_any 2 h hn hm (by omega) (by omega)).mono ?_
  rintro e w' ⟨v, l, rfl, ho, r⟩
  have hf : ∀ l : List Int, flatC encI l = l.map (Value.int .i64) := by
    intro l
    induction l with
    | nil => rfl
    | cons a l ih => simp only [List.map_cons, ← ih]; rfl
  rw [hf] at ho
  exact ⟨v, l, rfl, ho, r⟩
theorem iSubO {C F : Option Addr} {k cc nf cf : Nat} {gs : List Gl} {ts : List Ti} {ys : List Pl} {c : Nat → Bool} {w : World} (h : RdSl 3 RPl w C k ys) (hv : validAsmB gs ts ys = true) (hF : RdSl 1 RInt w F nf (idxL c ys.length)) :
    Calls Tryz.prog 38 #[.agg #[.slice C k cc], .slice F nf cf] w fun e w' => ∃ A q ca, e = .returned (.tuple #[.agg #[.slice A q ca], .int .i64 0]) ∧ w'.ownsRow w.heap.size 149 3 (.slice A q ca) q (plCells (selL c ys)) ∧ (selL c ys).length = q ∧ Below w.heap.size w w' := by
  have h1 := hF.len
  have h2 := idxL_len c ys.length
  have h3 := (valid_of hv).len
  have h4 := h.len
  refine (SubAssembly_any h hF (by omega) (by omega) (fun v hv => by obtain ⟨i, e, hi, _⟩ := idxL_mem c _ v hv; exact ⟨i, e, by omega⟩) (valid_form hv) (by rw [← h4]; exact rises_idx c ys.length)).mono ?_
  rintro e w1 ⟨A, ca, rfl, hO, hb⟩
  exact ⟨A, _, ca, rfl, hO, rfl, hb⟩
theorem cntB_perm {q : Nat} {L M : List (Nat → Bool)} (h : List.Perm L M) : cntB q L = cntB q M := by
  unfold cntB
  exact (h.map _).sum_nat
theorem cntB_take {q i : Nat} {L : List (Nat → Bool)} {d : Nat → Bool} (h : L[i]? = some d) : cntB q (L.take (i + 1)) = cntB q (L.take i) + (idxL d q).length := by
  obtain ⟨hi, rfl⟩ := List.getElem?_eq_some_iff.1 h
  rw [List.take_succ_eq_append_getElem hi, cntB_app]
  simp [cntB]
set_option maxRecDepth 100000 in
set_option maxHeartbeats 16000000 in
theorem FnWeakest_any {n n2 c c2 : Nat} {C D : Option Addr} {bs bs2 : List Nat} (w : World) (h : RdSl 1 RBy w C n bs) (h2 : RdSl 1 RBy w D n2 bs2) :
    Calls Tryz.prog 6 #[.slice C n c, .slice D n2 c2] w fun e w' => e = .returned (.bool true) ∧ Below w.heap.size w w' := by
  obtain ⟨iI, hI, hI0, hI1, hI2⟩ := info_parts infoI
  have hH := Lib.hid h
  have hBy := Lib.hid h2
  clear h h2
  by_cases hn : 4096 < n
  · have hnH := Lib.hid (show decide (4096 < n) = true from decide_eq_true hn)
    clear hn
    go_enter Tryz.func6, Tryz.ntmps6
    go_wp2_with (go_at_call 7; refine (f6big_at _ hnH.out).mono ?_; rintro e _ ⟨rfl, rfl⟩)
    go_ret
    exact ⟨rfl, bl_refl _⟩
  have hnH := Lib.hid (show decide (4096 < n) = false from decide_eq_false hn)
  have hnle : n ≤ 1000000 := by omega
  clear hn
  by_cases hn2 : 4096 < n2
  · have hnH2 := Lib.hid (show decide (4096 < n2) = true from decide_eq_true hn2)
    clear hn2
    go_enter Tryz.func6, Tryz.ntmps6
    go_wp2_with fail
    refine (f6big_at _ hnH.out).mono ?_
    rintro e _ ⟨rfl, rfl⟩
    go_wp2_with fail
    refine (f6big_at _ hnH2.out).mono ?_
    rintro e _ ⟨rfl, rfl⟩
    go_wp2
    go_ret
    exact ⟨rfl, bl_refl _⟩
  have hnH2 := Lib.hid (show decide (4096 < n2) = false from decide_eq_false hn2)
  have hn2le : n2 ≤ 1000000 := by omega
  clear hn2
  go_enter Tryz.func6, Tryz.ntmps6
  go_wp2_with fail
  refine (f6big_at _ hnH.out).mono ?_
  rintro e _ ⟨rfl, rfl⟩
  go_wp2_with fail
  refine (f6big_at _ hnH2.out).mono ?_
  rintro e _ ⟨rfl, rfl⟩
  go_wp2_with fail
  refine (LawPiece_sa hH.out hnle).mono ?_
  rintro e w1 ⟨G, T, A, m1, cg, m2, ct, m3, ca, gs, ts, xs, rfl, hSA0, hv0, hx30, hb⟩
  have hSA := Lib.hid hSA0
  have hv := Lib.hid hv0
  have hV := Lib.hid (valid_of hv0)
  have hl3 := hSA0.A.len
  clear hSA0 hv0
  replace hBy := Lib.hid (hBy.out.below RBy.stable hb)
  have hbw := Lib.hid hb
  clear hb hH
  go_wp2_with fail
  obtain ⟨a0', ha0⟩ : ∃ W, W = w1.alloc (Obj.cells #[.slice G m1 cg, .slice T m2 ct] 27) := ⟨_, rfl⟩
  rw [← ha0]
  have z0 : a0'.heap.size = w1.heap.size + 1 := by rw [ha0, World.size_alloc]
  have b0 : Below w1.heap.size w1 a0' := by rw [ha0]; exact bl_al (bl_refl _) _
  obtain ⟨W, hW⟩ : ∃ W, W = a0'.alloc (Obj.cells #[.slice A m3 ca] 30) := ⟨_, rfl⟩
  rw [← hW]
  have b1 : Below a0'.heap.size a0' W := by rw [hW]; exact bl_al (bl_refl _) _
  have hb : Below w1.heap.size w1 W := bl_tr b0 b1
  have bS : Hid (Bx W w1.heap.size [.slice G m1 cg, .slice T m2 ct]) := Lib.hid (by have hm := Bx.made w1 [.slice G m1 cg, .slice T m2 ct] 27; rw [← ha0] at hm; exact hm.below b1)
  have bA : Hid (Bx W (w1.heap.size + 1) [.slice A m3 ca]) := Lib.hid (by have hm := Bx.made a0' [.slice A m3 ca] 30; rw [← hW] at hm; rw [z0] at hm; exact hm)
  replace hSA := Lib.hid (hSA.out.below hb)
  replace hBy := Lib.hid (hBy.out.below RBy.stable hb)
  replace hbw := Lib.hid (hbw.out.trans (hb.mono hbw.out.size))
  have hsz := hb.size
  clear ha0 hW z0 b0 b1 hb
  have s0 := bS.out.cell 0 _ rfl
  have s1 := bS.out.cell 1 _ rfl
  have a0 := bA.out.cell 0 _ rfl
  have lS := bS.out.lt
  have lA := bA.out.lt
  by_cases hm2 : m3 < 2
  · refine (iWeakF hSA.out hv.out hm2).mono ?_
    rintro e w2 ⟨A1, c1, rfl, hA1, hb⟩
    replace hA1 := Lib.hid hA1
    replace bS := Lib.hid (bS.out.below hb)
    replace bA := Lib.hid (bA.out.below hb)
    replace hSA := Lib.hid (hSA.out.below hb)
    replace hBy := Lib.hid (hBy.out.below RBy.stable hb)
    replace hbw := Lib.hid (hbw.out.trans (hb.mono hbw.out.size))
    replace s0 := bS.out.cell 0 _ rfl
    replace s1 := bS.out.cell 1 _ rfl
    replace a0 := bA.out.cell 0 _ rfl
    replace lS := bS.out.lt
    replace lA := bA.out.lt
    clear hb
    go_wp2_with fail
    refine (sWeakF hSA.out hv.out hm2).mono ?_
    rintro e w3 ⟨A2, c3, rfl, hD, hb⟩
    replace hD := Lib.hid hD
    replace bS := Lib.hid (bS.out.below hb)
    replace bA := Lib.hid (bA.out.below hb)
    replace hSA := Lib.hid (hSA.out.below hb)
    replace hBy := Lib.hid (hBy.out.below RBy.stable hb)
    replace hbw := Lib.hid (hbw.out.trans (hb.mono hbw.out.size))
    replace hA1 := Lib.hid (hA1.out.below RInt.stable hb)
    replace s0 := bS.out.cell 0 _ rfl
    replace s1 := bS.out.cell 1 _ rfl
    replace a0 := bA.out.cell 0 _ rfl
    replace lS := bS.out.lt
    replace lA := bA.out.lt
    clear hb
    go_wp2_with fail
    refine (f6ints_any hA1.out hD.out (by omega)).mono ?_
    rintro e w4 ⟨rfl, hb⟩
    replace bS := Lib.hid (bS.out.below hb)
    replace bA := Lib.hid (bA.out.below hb)
    replace hSA := Lib.hid (hSA.out.below hb)
    replace hBy := Lib.hid (hBy.out.below RBy.stable hb)
    replace hbw := Lib.hid (hbw.out.trans (hb.mono hbw.out.size))
    replace s0 := bS.out.cell 0 _ rfl
    replace s1 := bS.out.cell 1 _ rfl
    replace a0 := bA.out.cell 0 _ rfl
    replace lS := bS.out.lt
    replace lA := bA.out.lt
    clear hb
    go_wp2
    go_ret
    exact ⟨rfl, hbw.out⟩
  have hbo := Lib.hid (show BondsOk m3 (bondsL gs ts xs) by rw [← hl3]; exact bondsOk hV.out)
  obtain ⟨cW, hcW, hsW⟩ := weak_idx hbo.out (by omega)
  obtain ⟨V, hV0⟩ : ∃ V, (weakR m3 (bondsL gs ts xs)).1 = V := ⟨_, rfl⟩
  rw [hV0] at hsW
  rw [← hl3] at hcW hsW
  obtain ⟨N, hN⟩ : ∃ N, (idxL cW xs.length).length = N := ⟨_, rfl⟩
  have hNle : N ≤ m3 := by rw [← hN, ← hl3]; exact idxL_len _ _
  have hV0H := Lib.hid hV0
  have hcWH := Lib.hid (show intsI (weakR m3 (bondsL gs ts xs)).2 = idxL cW xs.length by rw [← hcW, hl3])
  have hsWH := Lib.hid hsW
  have hNH := Lib.hid hN
  clear hV0 hcW hsW hN
  refine (iWeak hSA.out hv.out (by omega) (by omega) hV0H.out hcWH.out hNH.out).mono ?_
  rintro e w2 ⟨A1, c1, rfl, hA1, hb⟩
  replace hA1 := Lib.hid hA1
  replace bS := Lib.hid (bS.out.below hb)
  replace bA := Lib.hid (bA.out.below hb)
  replace hSA := Lib.hid (hSA.out.below hb)
  replace hBy := Lib.hid (hBy.out.below RBy.stable hb)
  replace hbw := Lib.hid (hbw.out.trans (hb.mono hbw.out.size))
  replace s0 := bS.out.cell 0 _ rfl
  replace s1 := bS.out.cell 1 _ rfl
  replace a0 := bA.out.cell 0 _ rfl
  replace lS := bS.out.lt
  replace lA := bA.out.lt
  clear hb
  go_wp2_with fail
  refine (sWeak hSA.out hv.out (by omega) (by omega) hV0H.out hcWH.out hNH.out).mono ?_
  rintro e w3 ⟨A2, c3, rfl, hD, hb⟩
  replace hD := Lib.hid hD
  replace bS := Lib.hid (bS.out.below hb)
  replace bA := Lib.hid (bA.out.below hb)
  replace hSA := Lib.hid (hSA.out.below hb)
  replace hBy := Lib.hid (hBy.out.below RBy.stable hb)
  replace hbw := Lib.hid (hbw.out.trans (hb.mono hbw.out.size))
  replace hA1 := Lib.hid (hA1.out.below RInt.stable hb)
  replace s0 := bS.out.cell 0 _ rfl
  replace s1 := bS.out.cell 1 _ rfl
  replace a0 := bA.out.cell 0 _ rfl
  replace lS := bS.out.lt
  replace lA := bA.out.lt
  clear hb
  go_wp2_with fail
  refine (f6ints_any hA1.out hD.out (by omega)).mono ?_
  rintro e w4 ⟨rfl, hb⟩
  replace bS := Lib.hid (bS.out.below hb)
  replace bA := Lib.hid (bA.out.below hb)
  replace hSA := Lib.hid (hSA.out.below hb)
  replace hBy := Lib.hid (hBy.out.below RBy.stable hb)
  replace hbw := Lib.hid (hbw.out.trans (hb.mono hbw.out.size))
  replace hD := Lib.hid (hD.out.below RInt.stable hb)
  replace s0 := bS.out.cell 0 _ rfl
  replace s1 := bS.out.cell 1 _ rfl
  replace a0 := bA.out.cell 0 _ rfl
  replace lS := bS.out.lt
  replace lA := bA.out.lt
  clear hb
  clear hA1
  go_wp2_with fail
  refine (iCut hSA.out hv.out hD.out hsWH.out).mono ?_
  rintro e w5 ⟨rfl, hb⟩
  replace bS := Lib.hid (bS.out.below hb)
  replace bA := Lib.hid (bA.out.below hb)
  replace hSA := Lib.hid (hSA.out.below hb)
  replace hBy := Lib.hid (hBy.out.below RBy.stable hb)
  replace hbw := Lib.hid (hbw.out.trans (hb.mono hbw.out.size))
  replace s0 := bS.out.cell 0 _ rfl
  replace s1 := bS.out.cell 1 _ rfl
  replace a0 := bA.out.cell 0 _ rfl
  replace lS := bS.out.lt
  replace lA := bA.out.lt
  clear hb
  clear hD
  go_wp2_with fail
  refine (picks2W (hBy.out.below RBy.stable (bl_al (bl_refl _) _)) hn2le (by omega)).mono ?_
  rintro e w7 ⟨v, l2, rfl, hOp, hl2, hl2v, hb⟩
  obtain ⟨Ap, cp, rfl⟩ := ownsRow_form hOp
  have hbX : Below w5.heap.size w5 w7 := bl_tr (bl_al (bl_refl _) _) hb
  have hRa : Hid (w7.ownsRow w5.heap.size 2 1 (.slice (some ⟨w5.heap.size, 0, none⟩) 0 0) 0 []) := Lib.hid (ownsRow_below (World.ownsRow_lit w5 #[] 0 (Nat.le_refl _) (by unfold maxLen; omega) rfl) hb)
  have hpl : ∀ g, Value.ownBlock (.slice Ap m3 cp) = some g → w5.heap.size + 1 ≤ g := fun g e => by
    have := (hOp.lt g e).1
    simp only [World.size_alloc] at this
    omega
  have hOpH : Hid (w7.ownsRow w5.heap.size 2 1 (.slice Ap m3 cp) m3 (l2.map (Value.int .i64))) := Lib.hid (ownsRow_lo hOp (by simp only [World.size_alloc]; omega))
  have ap2 : Hid (ApartV (.slice (some ⟨w5.heap.size, 0, none⟩) 0 0) (.slice Ap m3 cp)) := Lib.hid (fun g g' h1 h2 => by have h3 := hpl g' h2; injection h1 with h1; simp at h1; omega)
  have hbXH := Lib.hid hbX
  have hl2vH := Lib.hid hl2v
  clear hpl hOp hb hbX hl2v hBy
  obtain ⟨cF, hcF⟩ : ∃ cF : Nat → Bool, cF = fun i => l2.getD i 1 == 0 := ⟨_, rfl⟩
  have hcF := Lib.hid hcF
  have hl2H := Lib.hid hl2
  clear hl2
  go_wp2
  go_loopg [17, 15] m3 (fun gq x y wr => ∃ (k ka : Nat) (Aa : Option Addr) (c8 : Nat), k + gq = m3 ∧ x = .int .i64 (k : Int) ∧ y = .slice Aa ka c8 ∧ Hid ((idxL cF k).length = ka) ∧ Hid (wr.ownsRow w5.heap.size 2 1 (.slice Aa ka c8) ka ((idxL cF k).map (Value.int .i64))) ∧ Hid (wr.ownsRow w5.heap.size 2 1 (.slice Ap m3 cp) m3 (l2.map (Value.int .i64))) ∧ Hid (ApartV (.slice Aa ka c8) (.slice Ap m3 cp)) ∧ Hid (Below w5.heap.size w5 wr))
  case atStart => exact ⟨0, 0, _, _, by omega, rfl, rfl, Lib.hid rfl, hRa, hOpH, ap2, hbXH⟩
  case round =>
    clear hRa hOpH ap2 hbXH
    obtain ⟨k, ka, Aa, c8, hk, rfl, rfl, hka, rA, rP, p2, hbw7⟩ := hrel
    have hka9 : ka ≤ k := by rw [← hka.out]; exact idxL_len _ _
    have hs6 := hbw7.out.size
    by_cases hkn : k < m3
    · obtain ⟨v, hv8⟩ : ∃ v, l2[k]? = some v := ⟨_, List.getElem?_eq_getElem (by rw [hl2H.out]; exact hkn)⟩
      obtain ⟨hv0, hv2⟩ := hl2vH.out v (List.mem_of_getElem? hv8)
      have hcv : cF k = (v == 0) := by rw [hcF.out]; simp only [List.getD_eq_getElem?_getD, hv8, Option.getD_some]
      obtain ⟨_, _, hAe, rdP⟩ := rdI_of (bs := l2) (by rw [hl2H.out]; exact rP.out)
      injection hAe with hAe h8 h9
      clear h8 h9
      subst hAe
      rw [hl2H.out] at rdP
      obtain ⟨bf, of_, hFe, hbf, hcf⟩ := rdP.ptr (by omega)
      have d := hcf k v hv8
      unfold RInt at d
      simp only [Nat.mul_one] at d
      subst hFe
      have hkI : (k : Int) < (m3 : Int) := by omega
      have hk0 : (0 : Int) ≤ (k : Int) := by omega
      clear hcf rdP hv8
      by_cases hz : v = 0
      · subst hz
        have hyes : cF k = true := by rw [hcv]; rfl
        have hyesH := Lib.hid hyes
        clear hcv hyes hv0 hv2
        go_wp2_with (at_builtin; have hA4 : Below wr.heap.size wr (wr.alloc (Obj.cells #[.int .i64 (k : Int)] 2)) := bl_al (bl_refl _) _; refine wpList_append_own_at _ rfl _ _ 33 rfl w5.heap.size 2 iI (.int .i64 0) 1 8 Tryz.underlying33 hI hI0 hI1 hI2 rfl (by decide) (.slice Aa ka c8) ka ((idxL cF k).map (Value.int .i64)) rfl (ownsRow_below rA.out hA4) ⟨wr.heap.size, 0, none⟩ 1 1 [.int .i64 (k : Int)] rfl rfl (cell_one_newD _ _ _) (fun x hx => by simp at hx; subst hx; rfl) (by unfold maxLen; omega) (by omega) (by simp; omega) ?_; intro v5 w8 hown5 hgrow5 h5a h5b; obtain ⟨A5, c5, rfl⟩ := ownsRow_form hown5; have hbX : Below w5.heap.size wr w8 := (hA4.mono hs6).grown hgrow5 (by simp; omega) (fun g e => (rA.out.lt g e).1); have hbw5 := Lib.hid (hbw7.out.trans hbX); have rP5 := Lib.hid (own_apart (ownsRow_below rP.out hA4) hgrow5 p2.out); have p2' := Lib.hid (show ApartV (.slice A5 (ka + 1) c5) (.slice (some ⟨bf, of_, none⟩) m3 cp) by first | exact apart_moved (ownsRow_below rP.out hA4) p2.out h5a | exact apart_moved (ownsRow_below rP.out hA4) p2.out h5b); have hown5H := Lib.hid hown5; clear hown5 hgrow5 h5a h5b hbX hA4)
        go_roundg (m3 - (k + 1))
        case measure => omega
        case rel => exact ⟨k + 1, ka + 1, A5, c5, by omega, by go_num, rfl, Lib.hid (by rw [idxL_yes hyesH.out, List.length_append, hka.out]; rfl), Lib.hid (by rw [idxL_yes hyesH.out, List.map_append]; exact hown5H.out), rP5, p2', hbw5⟩
      · have hzz : (v == 0) = false := by simpa using hz
        have hno : cF k = false := by rw [hcv, hzz]
        have hnoH := Lib.hid hno
        clear hcv hno hv0 hv2
        go_wp2
        go_roundg (m3 - (k + 1))
        case measure => omega
        case rel => exact ⟨k + 1, ka, Aa, c8, by omega, by go_num, rfl, Lib.hid (by rw [idxL_no hnoH.out]; exact hka.out), Lib.hid (by rw [idxL_no hnoH.out]; exact rA.out), rP, p2, hbw7⟩
    · obtain rfl : k = m3 := by omega
      have hb := hbw7.out
      replace bS := Lib.hid (bS.out.below hb)
      replace bA := Lib.hid (bA.out.below hb)
      replace hSA := Lib.hid (hSA.out.below hb)
      replace hbw := Lib.hid (hbw.out.trans (hb.mono hbw.out.size))
      replace s0 := bS.out.cell 0 _ rfl
      replace s1 := bS.out.cell 1 _ rfl
      replace a0 := bA.out.cell 0 _ rfl
      replace lS := bS.out.lt
      replace lA := bA.out.lt
      clear hb
      obtain ⟨S2, hS2⟩ : ∃ S2, sumB (keepLC (idxL cF xs.length) (bondsL gs ts xs) (bondsL gs ts xs).length) = S2 := ⟨_, rfl⟩
      have hS2H := Lib.hid hS2
      have hge : 0 < ka → ka < k → V ≤ S2 := fun h1 h2 => by
        have := drawn_ge hbo.out (by omega) cF (by rw [hka.out]; exact h1) (by rw [hka.out]; exact h2)
        rw [hV0H.out, ← hl3, hS2] at this
        exact this
      have rdA : Hid (RdSl 1 RInt wr Aa ka (idxL cF xs.length)) := Lib.hid (by rw [hl3]; exact rdI rA.out hka.out.symm)
      clear hS2 rA rP p2
      go_wp2_with fail
      refine (iCut hSA.out hv.out rdA.out hS2H.out).mono ?_
      rintro e w8 ⟨rfl, hb⟩
      replace bS := Lib.hid (bS.out.below hb)
      replace bA := Lib.hid (bA.out.below hb)
      replace hSA := Lib.hid (hSA.out.below hb)
      replace hbw := Lib.hid (hbw.out.trans (hb.mono hbw.out.size))
      replace s0 := bS.out.cell 0 _ rfl
      replace s1 := bS.out.cell 1 _ rfl
      replace a0 := bA.out.cell 0 _ rfl
      replace lS := bS.out.lt
      replace lA := bA.out.lt
      clear hb
      clear rdA hka
      have hkk : ¬ k < 2 := by omega
      by_cases hk0 : ka = 0
      · have hk0i : ¬ (0 : Int) < (ka : Int) := by omega
        go_wp2
        go_loopg [20] 4 (fun gq x wr => ∃ t : Nat, t + gq = 5 ∧ 1 ≤ t ∧ x = .int .i64 (t : Int) ∧ Hid (Bx wr w1.heap.size [.slice G m1 cg, .slice T m2 ct]) ∧ Hid (Bx wr (w1.heap.size + 1) [.slice A k ca]) ∧ Hid (SA wr G m1 T m2 A k gs ts xs) ∧ Hid (Below w.heap.size w wr))
        case atStart => exact ⟨1, by omega, by omega, rfl, bS, bA, hSA, hbw⟩
        case round =>
          clear bS bA hSA hbw s0 s1 a0 lS lA
          obtain ⟨t, ht, ht1, rfl, bS, bA, hSA, hbw⟩ := hrel
          have s0 := bS.out.cell 0 _ rfl
          have s1 := bS.out.cell 1 _ rfl
          have a0 := bA.out.cell 0 _ rfl
          have lS := bS.out.lt
          have lA := bA.out.lt
          by_cases ht5 : t < 5
          · have ht5i : (t : Int) < 5 := by omega
            obtain ⟨b, hb0⟩ : ∃ b, holdsB k (bondsL gs ts xs) t = b := ⟨_, rfl⟩
            have hbW : decide ((t : Int) ≤ V) = b := by rw [← hb0, holdsB_weak (by omega), hV0H.out]
            have hb0H := Lib.hid hb0
            clear hb0
            go_wp2_with fail
            refine (iStab hSA.out hv.out (by omega) ht1 (by omega) hb0H.out).mono ?_
            rintro e w9 ⟨rfl, hb⟩
            replace bS := Lib.hid (bS.out.below hb)
            replace bA := Lib.hid (bA.out.below hb)
            replace hSA := Lib.hid (hSA.out.below hb)
            replace hbw := Lib.hid (hbw.out.trans (hb.mono hbw.out.size))
            replace s0 := bS.out.cell 0 _ rfl
            replace s1 := bS.out.cell 1 _ rfl
            replace a0 := bA.out.cell 0 _ rfl
            replace lS := bS.out.lt
            replace lA := bA.out.lt
            clear hb
            go_wp2_with fail
            refine (BreakApart_any hSA.out hv.out (by omega) (by omega) ht1 (by omega)).mono ?_
            rintro e wa ⟨g5, N5, cap5, us, L, L0, rfl, hus, hR, hp, hK, hN64, hb⟩
            replace hR := Lib.hid hR
            replace hK := Lib.hid hK
            replace hp := Lib.hid hp
            have husH := Lib.hid hus
            have hLN : L.length = N5 := by rw [← hR.out.len, hus]
            replace bS := Lib.hid (bS.out.below hb)
            replace bA := Lib.hid (bA.out.below hb)
            replace hSA := Lib.hid (hSA.out.below hb)
            replace hbw := Lib.hid (hbw.out.trans (hb.mono hbw.out.size))
            replace s0 := bS.out.cell 0 _ rfl
            replace s1 := bS.out.cell 1 _ rfl
            replace a0 := bA.out.cell 0 _ rfl
            replace lS := bS.out.lt
            replace lA := bA.out.lt
            clear hb
            have hone : ((N5 : Int) == 1) = b := by
              have h1 := hK.out.one
              have h2 : St gs ts xs t allC ↔ b = true := by unfold St; rw [selL_all, hl3, hb0H.out]
              rw [h2, ← hp.out.length_eq, hLN] at h1
              cases b
              · have h3 : ¬ N5 = 1 := fun e => by have := h1.1 e; cases this
                simp; omega
              · have h3 := h1.2 rfl
                simp; omega
            have hsum : cntB xs.length L = k := by rw [cntB_perm hp.out, hK.out.count, idxL_all, hl3]
            have hst : Hid (∀ (i : Nat) (d : Nat → Bool), L[i]? = some d → holdsB (selL d xs).length (bondsL gs ts (selL d xs)) t = true) := Lib.hid (fun i d hd => hK.out.all d (hp.out.mem_iff.1 (List.mem_of_getElem? hd)))
            have hsumH := Lib.hid hsum
            have hLNH := Lib.hid hLN
            clear hsum hLN hus
            go_wp2
            go_loopg [25, 26] N5 (fun gq x y wr => ∃ i cnt : Nat, i + gq = N5 ∧ x = .int .i64 (cnt : Int) ∧ y = .int .i64 (i : Int) ∧ Hid (cnt = cntB xs.length (L.take i)) ∧ cnt ≤ 64 * i ∧ Hid (Bx wr w1.heap.size [.slice G m1 cg, .slice T m2 ct]) ∧ Hid (Bx wr (w1.heap.size + 1) [.slice A k ca]) ∧ Hid (SA wr G m1 T m2 A k gs ts xs) ∧ Hid (RowsB wr 0 (.slice (some ⟨g5, 0, none⟩) N5 cap5) us xs.length L) ∧ Hid (Below w.heap.size w wr))
            case atStart => exact ⟨0, 0, by omega, rfl, rfl, Lib.hid rfl, by omega, bS, bA, hSA, Lib.hid (hR.out.rebase (Nat.zero_le _)), hbw⟩
            case round =>
              clear bS bA hSA hbw s0 s1 a0 lS lA hR
              obtain ⟨i, cnt, hi, rfl, rfl, hcnt, hcl, bS, bA, hSA, hR, hbw⟩ := hrel
              have s0 := bS.out.cell 0 _ rfl
              have s1 := bS.out.cell 1 _ rfl
              have a0 := bA.out.cell 0 _ rfl
              have lS := bS.out.lt
              have lA := bA.out.lt
              by_cases hiN : i < N5
              · have hiI : (i : Int) < (N5 : Int) := by omega
                have hi0 : (0 : Int) ≤ (i : Int) := by omega
                obtain ⟨u, hu⟩ : ∃ u, us[i]? = some u := ⟨_, List.getElem?_eq_getElem (by rw [husH.out]; exact hiN)⟩
                obtain ⟨d, hd⟩ : ∃ d, L[i]? = some d := ⟨_, List.getElem?_eq_getElem (by rw [hLNH.out]; exact hiN)⟩
                obtain ⟨np, hnp⟩ := hR.out.inner i u d hu hd
                obtain ⟨Fp, cp5, rfl⟩ := ownsRow_form hnp
                have hlp : (idxL d xs.length).length = np := by have := hnp.1; simpa using this
                have hnpk : np ≤ k := by rw [← hlp, ← hl3]; exact idxL_len _ _
                have hou := hR.out.outer
                rw [husH.out] at hou
                have g0 := (hou.cellAt i (by omega)).trans hu
                have gl := (hou.lt g5 rfl).2
                have hrF := Lib.hid (rdI hnp hlp.symm)
                have hdH := Lib.hid hd
                have hlpH := Lib.hid hlp
                clear hu hd hnp hlp hou
                go_wp2_with fail
                refine wp_region_fl 9 [(0, .q), (1, .q), (2, .q), (3, .q), (4, .q), (5, .g), (6, .q), (7, .q), (8, .p)] [(10, .b), (11, .q)] _ (Obj.cells #[.slice none 0 0] 30) (by kernel_rfl) (by kernel_rfl) (by kernel_rfl) (by kernel_rfl) rfl (fun a w => ⟨rfl, by unfold flPtr; go_simp⟩) ?_
                simp only [pick, List.filterMap_cons, List.filterMap_nil, List.getElem?_toArray, List.getElem?_cons_zero, List.getElem?_cons_succ, Option.map_some]
                repeat (first | ((with_reducible refine wpL_p (fun K hK => ?_)); go_simp; refine hK _ ?_; clear hK K) | ((with_reducible refine wpL_q (fun K hK => ?_)); go_simp; (first | refine hK _ ?_ | (go_bits; refine hK _ ?_) | (go_bits; go_simp; refine hK _ ?_)); clear hK K))
                with_reducible refine wpL_g rfl (fun K hK st4 u4 mv4 => ?_)
                have hu4 := mv4.below
                have fu4 := (FlAt.none (Obj.cells #[.slice none 0 0] 30) (World.drew wr)).mv mv4
                have j4 : Below wr.heap.size wr u4 := (Below.refl _ wr).drew.trans (hu4.mono (Nat.le_refl _))
                clear mv4
                go_simp
                refine (iSubO (hSA.out.A.below RPl.stable j4) hv.out (hrF.out.below RInt.stable j4)).mono ?_
                rintro e wb ⟨A9, q9, c9, rfl, hown9, hq9, hb6⟩
                refine ⟨_, rfl, hb6, hK _ _ _ ?_⟩
                clear hK K
                have fd4 := fu4.below hb6
                have j5 : Below wr.heap.size wr wb := j4.trans (hb6.mono j4.size)
                repeat (first | ((with_reducible refine wpL_p (fun K hK => ?_)); go_simp; refine hK _ ?_; clear hK K) | ((with_reducible refine wpL_q (fun K hK => ?_)); go_simp; (first | refine hK _ ?_ | (go_bits; refine hK _ ?_) | (go_bits; go_simp; refine hK _ ?_)); clear hK K))
                with_reducible refine wpL_nil (fun b9 wc mvF => ?_)
                have huF := mvF.below
                obtain ⟨fl9, fb9⟩ := (fd4.mv mvF).2 _ rfl
                have j8 : Below wr.heap.size wr wc := j5.trans (huF.mono j5.size)
                clear mvF
                simp only [World.size_drew] at fl9
                have rF : wc.rowIs b9 30 1 (fun i => (#[.slice none 0 0] : Array Value).getD i undef) := ⟨_, fb9, rfl, fun i hi => by simp [hi]⟩
                have f0 : wc.cell? ⟨b9, 0, none⟩ = some (.slice none 0 0) := rF.cell (i := 0) (by decide)
                have f1 : wc.frozen? ⟨b9, 0, none⟩ = false := rF.frozen 0
                have lF : b9 < wc.heap.size := (Array.getElem?_eq_some_iff.1 fb9).1
                have hown9c := ownsRow_below hown9 huF
                have hownD := Lib.hid (ownsRow_setCell_other (a := ⟨b9, 0, none⟩) hown9c (own_ne_row hown9c rF (by decide)) (.slice A9 q9 c9))
                have hq9H := Lib.hid hq9
                have hbD : Below wr.heap.size wr (wc.setCell ⟨b9, 0, none⟩ (.slice A9 q9 c9)) := j8.setCell (p := ⟨b9, 0, none⟩) fl9 _
                have hbDH := Lib.hid hbD
                clear hown9 hown9c rF fb9 huF hb6 hu4 fu4 fd4 j4 j5 hbD
                simp only [flPtr]
                with_reducible refine wpD_b (fun K hK => ?_)
                go_simp
                refine hK _ _ ?_
                clear hK K
                repeat (first | ((with_reducible refine wpD_p (fun K hK => ?_)); go_simp; refine hK _ ?_; clear hK K) | ((with_reducible refine wpD_q (fun K hK => ?_)); go_simp; (first | refine hK _ ?_ | (go_bits; refine hK _ ?_) | (go_bits; go_simp; refine hK _ ?_)); clear hK K))
                with_reducible refine wpD_nil ?_
                obtain ⟨wd, hwd⟩ : ∃ wd, wd = wc.setCell ⟨b9, 0, none⟩ (.slice A9 q9 c9) := ⟨_, rfl⟩
                rw [← hwd]
                have hb : Below wr.heap.size wr wd := by rw [hwd]; exact hbDH.out
                have z9 : wd.cell? ⟨b9, 0, none⟩ = some (.slice A9 q9 c9) := by rw [hwd]; go_simp
                have z9l : b9 < wd.heap.size := by rw [hwd]; simpa using lF
                have hown := hownD.out
                rw [← hwd] at hown
                have hPl := Lib.hid (rdPl hown hq9H.out.symm)
                have vs := Lib.hid (asm_of_valid (sel_valid hV.out d) (valid_set hv.out))
                have hhs := Lib.hid (show holdsB q9 (bondsL gs ts (selL d xs)) t = true by rw [← hq9H.out]; exact hst.out i d hdH.out)
                have hq9l : q9 ≤ 64 := by rw [← hq9H.out, selL_len]; have := idxL_len d xs.length; omega
                replace g0 := (hb.cell (p := ⟨g5, i, none⟩) gl).trans g0
                replace gl := Nat.lt_of_lt_of_le gl hb.size
                replace bS := Lib.hid (bS.out.below hb)
                replace bA := Lib.hid (bA.out.below hb)
                replace hSA := Lib.hid (hSA.out.below hb)
                replace hbw := Lib.hid (hbw.out.trans (hb.mono hbw.out.size))
                replace hR := Lib.hid (hR.out.below hb)
                replace s0 := bS.out.cell 0 _ rfl
                replace s1 := bS.out.cell 1 _ rfl
                replace a0 := bA.out.cell 0 _ rfl
                replace lS := bS.out.lt
                replace lA := bA.out.lt
                clear hb hown hownD hbDH hwd f0 f1 lF j8 fl9 hrF
                go_wp2_with fail
                refine (iStab (SA.of_valid hSA.out.G hSA.out.T hPl.out vs.out) vs.out hq9l ht1 (by omega) hhs.out).mono ?_
                rintro e we ⟨rfl, hb⟩
                replace g0 := (hb.cell (p := ⟨g5, i, none⟩) gl).trans g0
                replace gl := Nat.lt_of_lt_of_le gl hb.size
                replace bS := Lib.hid (bS.out.below hb)
                replace bA := Lib.hid (bA.out.below hb)
                replace hSA := Lib.hid (hSA.out.below hb)
                replace hbw := Lib.hid (hbw.out.trans (hb.mono hbw.out.size))
                replace hR := Lib.hid (hR.out.below hb)
                replace s0 := bS.out.cell 0 _ rfl
                replace s1 := bS.out.cell 1 _ rfl
                replace a0 := bA.out.cell 0 _ rfl
                replace lS := bS.out.lt
                replace lA := bA.out.lt
                clear hb
                have hcw : IntKind.i64.wrap ((cnt : Int) + (np : Int)) = ((cnt + np : Nat) : Int) := by rw [wrapI (by omega) (by omega)]; omega
                have hcn := Lib.hid (show cnt + np = cntB xs.length (L.take (i + 1)) by rw [cntB_take hdH.out, hlpH.out, ← hcnt.out])
                clear hPl vs hhs z9 z9l
                go_wp2
                go_roundg (N5 - (i + 1))
                case measure => omega
                case rel => exact ⟨i + 1, cnt + np, by omega, by go_num, by go_num, hcn, by omega, bS, bA, hSA, hR, hbw⟩
              · obtain rfl : i = N5 := by omega
                have hiI : ¬ (i : Int) < (i : Int) := by omega
                have hcE : cnt = k := by rw [hcnt.out, List.take_of_length_le (by rw [hLNH.out]; exact Nat.le_refl _), hsumH.out]
                have hcI : ((cnt : Int) != (k : Int)) = false := by rw [hcE]; simp
                subst hcE
                go_wp2
                go_roundg (5 - (t + 1))
                case measure => omega
                case rel => exact ⟨t + 1, by omega, by omega, by go_num, bS, bA, hSA, hbw⟩
          · have ht5i : ¬ (t : Int) < 5 := by omega
            go_wp2
            go_ret
            exact ⟨rfl, hbw.out⟩
      have hk0i : (0 : Int) < (ka : Int) := by omega
      by_cases hk1 : ka < k
      · have hk1i : (ka : Int) < (k : Int) := by omega
        have hgeI : ¬ S2 < V := by have := hge (by omega) hk1; omega
        go_wp2
        go_loopg [20] 4 (fun gq x wr => ∃ t : Nat, t + gq = 5 ∧ 1 ≤ t ∧ x = .int .i64 (t : Int) ∧ Hid (Bx wr w1.heap.size [.slice G m1 cg, .slice T m2 ct]) ∧ Hid (Bx wr (w1.heap.size + 1) [.slice A k ca]) ∧ Hid (SA wr G m1 T m2 A k gs ts xs) ∧ Hid (Below w.heap.size w wr))
        case atStart => exact ⟨1, by omega, by omega, rfl, bS, bA, hSA, hbw⟩
        case round =>
          clear bS bA hSA hbw s0 s1 a0 lS lA
          obtain ⟨t, ht, ht1, rfl, bS, bA, hSA, hbw⟩ := hrel
          have s0 := bS.out.cell 0 _ rfl
          have s1 := bS.out.cell 1 _ rfl
          have a0 := bA.out.cell 0 _ rfl
          have lS := bS.out.lt
          have lA := bA.out.lt
          by_cases ht5 : t < 5
          · have ht5i : (t : Int) < 5 := by omega
            obtain ⟨b, hb0⟩ : ∃ b, holdsB k (bondsL gs ts xs) t = b := ⟨_, rfl⟩
            have hbW : decide ((t : Int) ≤ V) = b := by rw [← hb0, holdsB_weak (by omega), hV0H.out]
            have hb0H := Lib.hid hb0
            clear hb0
            go_wp2_with fail
            refine (iStab hSA.out hv.out (by omega) ht1 (by omega) hb0H.out).mono ?_
            rintro e w9 ⟨rfl, hb⟩
            replace bS := Lib.hid (bS.out.below hb)
            replace bA := Lib.hid (bA.out.below hb)
            replace hSA := Lib.hid (hSA.out.below hb)
            replace hbw := Lib.hid (hbw.out.trans (hb.mono hbw.out.size))
            replace s0 := bS.out.cell 0 _ rfl
            replace s1 := bS.out.cell 1 _ rfl
            replace a0 := bA.out.cell 0 _ rfl
            replace lS := bS.out.lt
            replace lA := bA.out.lt
            clear hb
            go_wp2_with fail
            refine (BreakApart_any hSA.out hv.out (by omega) (by omega) ht1 (by omega)).mono ?_
            rintro e wa ⟨g5, N5, cap5, us, L, L0, rfl, hus, hR, hp, hK, hN64, hb⟩
            replace hR := Lib.hid hR
            replace hK := Lib.hid hK
            replace hp := Lib.hid hp
            have husH := Lib.hid hus
            have hLN : L.length = N5 := by rw [← hR.out.len, hus]
            replace bS := Lib.hid (bS.out.below hb)
            replace bA := Lib.hid (bA.out.below hb)
            replace hSA := Lib.hid (hSA.out.below hb)
            replace hbw := Lib.hid (hbw.out.trans (hb.mono hbw.out.size))
            replace s0 := bS.out.cell 0 _ rfl
            replace s1 := bS.out.cell 1 _ rfl
            replace a0 := bA.out.cell 0 _ rfl
            replace lS := bS.out.lt
            replace lA := bA.out.lt
            clear hb
            have hone : ((N5 : Int) == 1) = b := by
              have h1 := hK.out.one
              have h2 : St gs ts xs t allC ↔ b = true := by unfold St; rw [selL_all, hl3, hb0H.out]
              rw [h2, ← hp.out.length_eq, hLN] at h1
              cases b
              · have h3 : ¬ N5 = 1 := fun e => by have := h1.1 e; cases this
                simp; omega
              · have h3 := h1.2 rfl
                simp; omega
            have hsum : cntB xs.length L = k := by rw [cntB_perm hp.out, hK.out.count, idxL_all, hl3]
            have hst : Hid (∀ (i : Nat) (d : Nat → Bool), L[i]? = some d → holdsB (selL d xs).length (bondsL gs ts (selL d xs)) t = true) := Lib.hid (fun i d hd => hK.out.all d (hp.out.mem_iff.1 (List.mem_of_getElem? hd)))
            have hsumH := Lib.hid hsum
            have hLNH := Lib.hid hLN
            clear hsum hLN hus
            go_wp2
            go_loopg [25, 26] N5 (fun gq x y wr => ∃ i cnt : Nat, i + gq = N5 ∧ x = .int .i64 (cnt : Int) ∧ y = .int .i64 (i : Int) ∧ Hid (cnt = cntB xs.length (L.take i)) ∧ cnt ≤ 64 * i ∧ Hid (Bx wr w1.heap.size [.slice G m1 cg, .slice T m2 ct]) ∧ Hid (Bx wr (w1.heap.size + 1) [.slice A k ca]) ∧ Hid (SA wr G m1 T m2 A k gs ts xs) ∧ Hid (RowsB wr 0 (.slice (some ⟨g5, 0, none⟩) N5 cap5) us xs.length L) ∧ Hid (Below w.heap.size w wr))
            case atStart => exact ⟨0, 0, by omega, rfl, rfl, Lib.hid rfl, by omega, bS, bA, hSA, Lib.hid (hR.out.rebase (Nat.zero_le _)), hbw⟩
            case round =>
              clear bS bA hSA hbw s0 s1 a0 lS lA hR
              obtain ⟨i, cnt, hi, rfl, rfl, hcnt, hcl, bS, bA, hSA, hR, hbw⟩ := hrel
              have s0 := bS.out.cell 0 _ rfl
              have s1 := bS.out.cell 1 _ rfl
              have a0 := bA.out.cell 0 _ rfl
              have lS := bS.out.lt
              have lA := bA.out.lt
              by_cases hiN : i < N5
              · have hiI : (i : Int) < (N5 : Int) := by omega
                have hi0 : (0 : Int) ≤ (i : Int) := by omega
                obtain ⟨u, hu⟩ : ∃ u, us[i]? = some u := ⟨_, List.getElem?_eq_getElem (by rw [husH.out]; exact hiN)⟩
                obtain ⟨d, hd⟩ : ∃ d, L[i]? = some d := ⟨_, List.getElem?_eq_getElem (by rw [hLNH.out]; exact hiN)⟩
                obtain ⟨np, hnp⟩ := hR.out.inner i u d hu hd
                obtain ⟨Fp, cp5, rfl⟩ := ownsRow_form hnp
                have hlp : (idxL d xs.length).length = np := by have := hnp.1; simpa using this
                have hnpk : np ≤ k := by rw [← hlp, ← hl3]; exact idxL_len _ _
                have hou := hR.out.outer
                rw [husH.out] at hou
                have g0 := (hou.cellAt i (by omega)).trans hu
                have gl := (hou.lt g5 rfl).2
                have hrF := Lib.hid (rdI hnp hlp.symm)
                have hdH := Lib.hid hd
                have hlpH := Lib.hid hlp
                clear hu hd hnp hlp hou
                go_wp2_with fail
                refine wp_region_fl 9 [(0, .q), (1, .q), (2, .q), (3, .q), (4, .q), (5, .g), (6, .q), (7, .q), (8, .p)] [(10, .b), (11, .q)] _ (Obj.cells #[.slice none 0 0] 30) (by kernel_rfl) (by kernel_rfl) (by kernel_rfl) (by kernel_rfl) rfl (fun a w => ⟨rfl, by unfold flPtr; go_simp⟩) ?_
                simp only [pick, List.filterMap_cons, List.filterMap_nil, List.getElem?_toArray, List.getElem?_cons_zero, List.getElem?_cons_succ, Option.map_some]
                repeat (first | ((with_reducible refine wpL_p (fun K hK => ?_)); go_simp; refine hK _ ?_; clear hK K) | ((with_reducible refine wpL_q (fun K hK => ?_)); go_simp; (first | refine hK _ ?_ | (go_bits; refine hK _ ?_) | (go_bits; go_simp; refine hK _ ?_)); clear hK K))
                with_reducible refine wpL_g rfl (fun K hK st4 u4 mv4 => ?_)
                have hu4 := mv4.below
                have fu4 := (FlAt.none (Obj.cells #[.slice none 0 0] 30) (World.drew wr)).mv mv4
                have j4 : Below wr.heap.size wr u4 := (Below.refl _ wr).drew.trans (hu4.mono (Nat.le_refl _))
                clear mv4
                go_simp
                refine (iSubO (hSA.out.A.below RPl.stable j4) hv.out (hrF.out.below RInt.stable j4)).mono ?_
                rintro e wb ⟨A9, q9, c9, rfl, hown9, hq9, hb6⟩
                refine ⟨_, rfl, hb6, hK _ _ _ ?_⟩
                clear hK K
                have fd4 := fu4.below hb6
                have j5 : Below wr.heap.size wr wb := j4.trans (hb6.mono j4.size)
                repeat (first | ((with_reducible refine wpL_p (fun K hK => ?_)); go_simp; refine hK _ ?_; clear hK K) | ((with_reducible refine wpL_q (fun K hK => ?_)); go_simp; (first | refine hK _ ?_ | (go_bits; refine hK _ ?_) | (go_bits; go_simp; refine hK _ ?_)); clear hK K))
                with_reducible refine wpL_nil (fun b9 wc mvF => ?_)
                have huF := mvF.below
                obtain ⟨fl9, fb9⟩ := (fd4.mv mvF).2 _ rfl
                have j8 : Below wr.heap.size wr wc := j5.trans (huF.mono j5.size)
                clear mvF
                simp only [World.size_drew] at fl9
                have rF : wc.rowIs b9 30 1 (fun i => (#[.slice none 0 0] : Array Value).getD i undef) := ⟨_, fb9, rfl, fun i hi => by simp [hi]⟩
                have f0 : wc.cell? ⟨b9, 0, none⟩ = some (.slice none 0 0) := rF.cell (i := 0) (by decide)
                have f1 : wc.frozen? ⟨b9, 0, none⟩ = false := rF.frozen 0
                have lF : b9 < wc.heap.size := (Array.getElem?_eq_some_iff.1 fb9).1
                have hown9c := ownsRow_below hown9 huF
                have hownD := Lib.hid (ownsRow_setCell_other (a := ⟨b9, 0, none⟩) hown9c (own_ne_row hown9c rF (by decide)) (.slice A9 q9 c9))
                have hq9H := Lib.hid hq9
                have hbD : Below wr.heap.size wr (wc.setCell ⟨b9, 0, none⟩ (.slice A9 q9 c9)) := j8.setCell (p := ⟨b9, 0, none⟩) fl9 _
                have hbDH := Lib.hid hbD
                clear hown9 hown9c rF fb9 huF hb6 hu4 fu4 fd4 j4 j5 hbD
                simp only [flPtr]
                with_reducible refine wpD_b (fun K hK => ?_)
                go_simp
                refine hK _ _ ?_
                clear hK K
                repeat (first | ((with_reducible refine wpD_p (fun K hK => ?_)); go_simp; refine hK _ ?_; clear hK K) | ((with_reducible refine wpD_q (fun K hK => ?_)); go_simp; (first | refine hK _ ?_ | (go_bits; refine hK _ ?_) | (go_bits; go_simp; refine hK _ ?_)); clear hK K))
                with_reducible refine wpD_nil ?_
                obtain ⟨wd, hwd⟩ : ∃ wd, wd = wc.setCell ⟨b9, 0, none⟩ (.slice A9 q9 c9) := ⟨_, rfl⟩
                rw [← hwd]
                have hb : Below wr.heap.size wr wd := by rw [hwd]; exact hbDH.out
                have z9 : wd.cell? ⟨b9, 0, none⟩ = some (.slice A9 q9 c9) := by rw [hwd]; go_simp
                have z9l : b9 < wd.heap.size := by rw [hwd]; simpa using lF
                have hown := hownD.out
                rw [← hwd] at hown
                have hPl := Lib.hid (rdPl hown hq9H.out.symm)
                have vs := Lib.hid (asm_of_valid (sel_valid hV.out d) (valid_set hv.out))
                have hhs := Lib.hid (show holdsB q9 (bondsL gs ts (selL d xs)) t = true by rw [← hq9H.out]; exact hst.out i d hdH.out)
                have hq9l : q9 ≤ 64 := by rw [← hq9H.out, selL_len]; have := idxL_len d xs.length; omega
                replace g0 := (hb.cell (p := ⟨g5, i, none⟩) gl).trans g0
                replace gl := Nat.lt_of_lt_of_le gl hb.size
                replace bS := Lib.hid (bS.out.below hb)
                replace bA := Lib.hid (bA.out.below hb)
                replace hSA := Lib.hid (hSA.out.below hb)
                replace hbw := Lib.hid (hbw.out.trans (hb.mono hbw.out.size))
                replace hR := Lib.hid (hR.out.below hb)
                replace s0 := bS.out.cell 0 _ rfl
                replace s1 := bS.out.cell 1 _ rfl
                replace a0 := bA.out.cell 0 _ rfl
                replace lS := bS.out.lt
                replace lA := bA.out.lt
                clear hb hown hownD hbDH hwd f0 f1 lF j8 fl9 hrF
                go_wp2_with fail
                refine (iStab (SA.of_valid hSA.out.G hSA.out.T hPl.out vs.out) vs.out hq9l ht1 (by omega) hhs.out).mono ?_
                rintro e we ⟨rfl, hb⟩
                replace g0 := (hb.cell (p := ⟨g5, i, none⟩) gl).trans g0
                replace gl := Nat.lt_of_lt_of_le gl hb.size
                replace bS := Lib.hid (bS.out.below hb)
                replace bA := Lib.hid (bA.out.below hb)
                replace hSA := Lib.hid (hSA.out.below hb)
                replace hbw := Lib.hid (hbw.out.trans (hb.mono hbw.out.size))
                replace hR := Lib.hid (hR.out.below hb)
                replace s0 := bS.out.cell 0 _ rfl
                replace s1 := bS.out.cell 1 _ rfl
                replace a0 := bA.out.cell 0 _ rfl
                replace lS := bS.out.lt
                replace lA := bA.out.lt
                clear hb
                have hcw : IntKind.i64.wrap ((cnt : Int) + (np : Int)) = ((cnt + np : Nat) : Int) := by rw [wrapI (by omega) (by omega)]; omega
                have hcn := Lib.hid (show cnt + np = cntB xs.length (L.take (i + 1)) by rw [cntB_take hdH.out, hlpH.out, ← hcnt.out])
                clear hPl vs hhs z9 z9l
                go_wp2
                go_roundg (N5 - (i + 1))
                case measure => omega
                case rel => exact ⟨i + 1, cnt + np, by omega, by go_num, by go_num, hcn, by omega, bS, bA, hSA, hR, hbw⟩
              · obtain rfl : i = N5 := by omega
                have hiI : ¬ (i : Int) < (i : Int) := by omega
                have hcE : cnt = k := by rw [hcnt.out, List.take_of_length_le (by rw [hLNH.out]; exact Nat.le_refl _), hsumH.out]
                have hcI : ((cnt : Int) != (k : Int)) = false := by rw [hcE]; simp
                subst hcE
                go_wp2
                go_roundg (5 - (t + 1))
                case measure => omega
                case rel => exact ⟨t + 1, by omega, by omega, by go_num, bS, bA, hSA, hbw⟩
          · have ht5i : ¬ (t : Int) < 5 := by omega
            go_wp2
            go_ret
            exact ⟨rfl, hbw.out⟩
      · have hk1i : ¬ (ka : Int) < (k : Int) := by omega
        go_wp2
        go_loopg [20] 4 (fun gq x wr => ∃ t : Nat, t + gq = 5 ∧ 1 ≤ t ∧ x = .int .i64 (t : Int) ∧ Hid (Bx wr w1.heap.size [.slice G m1 cg, .slice T m2 ct]) ∧ Hid (Bx wr (w1.heap.size + 1) [.slice A k ca]) ∧ Hid (SA wr G m1 T m2 A k gs ts xs) ∧ Hid (Below w.heap.size w wr))
        case atStart => exact ⟨1, by omega, by omega, rfl, bS, bA, hSA, hbw⟩
        case round =>
          clear bS bA hSA hbw s0 s1 a0 lS lA
          obtain ⟨t, ht, ht1, rfl, bS, bA, hSA, hbw⟩ := hrel
          have s0 := bS.out.cell 0 _ rfl
          have s1 := bS.out.cell 1 _ rfl
          have a0 := bA.out.cell 0 _ rfl
          have lS := bS.out.lt
          have lA := bA.out.lt
          by_cases ht5 : t < 5
          · have ht5i : (t : Int) < 5 := by omega
            obtain ⟨b, hb0⟩ : ∃ b, holdsB k (bondsL gs ts xs) t = b := ⟨_, rfl⟩
            have hbW : decide ((t : Int) ≤ V) = b := by rw [← hb0, holdsB_weak (by omega), hV0H.out]
            have hb0H := Lib.hid hb0
            clear hb0
            go_wp2_with fail
            refine (iStab hSA.out hv.out (by omega) ht1 (by omega) hb0H.out).mono ?_
            rintro e w9 ⟨rfl, hb⟩
            replace bS := Lib.hid (bS.out.below hb)
            replace bA := Lib.hid (bA.out.below hb)
            replace hSA := Lib.hid (hSA.out.below hb)
            replace hbw := Lib.hid (hbw.out.trans (hb.mono hbw.out.size))
            replace s0 := bS.out.cell 0 _ rfl
            replace s1 := bS.out.cell 1 _ rfl
            replace a0 := bA.out.cell 0 _ rfl
            replace lS := bS.out.lt
            replace lA := bA.out.lt
            clear hb
            go_wp2_with fail
            refine (BreakApart_any hSA.out hv.out (by omega) (by omega) ht1 (by omega)).mono ?_
            rintro e wa ⟨g5, N5, cap5, us, L, L0, rfl, hus, hR, hp, hK, hN64, hb⟩
            replace hR := Lib.hid hR
            replace hK := Lib.hid hK
            replace hp := Lib.hid hp
            have husH := Lib.hid hus
            have hLN : L.length = N5 := by rw [← hR.out.len, hus]
            replace bS := Lib.hid (bS.out.below hb)
            replace bA := Lib.hid (bA.out.below hb)
            replace hSA := Lib.hid (hSA.out.below hb)
            replace hbw := Lib.hid (hbw.out.trans (hb.mono hbw.out.size))
            replace s0 := bS.out.cell 0 _ rfl
            replace s1 := bS.out.cell 1 _ rfl
            replace a0 := bA.out.cell 0 _ rfl
            replace lS := bS.out.lt
            replace lA := bA.out.lt
            clear hb
            have hone : ((N5 : Int) == 1) = b := by
              have h1 := hK.out.one
              have h2 : St gs ts xs t allC ↔ b = true := by unfold St; rw [selL_all, hl3, hb0H.out]
              rw [h2, ← hp.out.length_eq, hLN] at h1
              cases b
              · have h3 : ¬ N5 = 1 := fun e => by have := h1.1 e; cases this
                simp; omega
              · have h3 := h1.2 rfl
                simp; omega
            have hsum : cntB xs.length L = k := by rw [cntB_perm hp.out, hK.out.count, idxL_all, hl3]
            have hst : Hid (∀ (i : Nat) (d : Nat → Bool), L[i]? = some d → holdsB (selL d xs).length (bondsL gs ts (selL d xs)) t = true) := Lib.hid (fun i d hd => hK.out.all d (hp.out.mem_iff.1 (List.mem_of_getElem? hd)))
            have hsumH := Lib.hid hsum
            have hLNH := Lib.hid hLN
            clear hsum hLN hus
            go_wp2
            go_loopg [25, 26] N5 (fun gq x y wr => ∃ i cnt : Nat, i + gq = N5 ∧ x = .int .i64 (cnt : Int) ∧ y = .int .i64 (i : Int) ∧ Hid (cnt = cntB xs.length (L.take i)) ∧ cnt ≤ 64 * i ∧ Hid (Bx wr w1.heap.size [.slice G m1 cg, .slice T m2 ct]) ∧ Hid (Bx wr (w1.heap.size + 1) [.slice A k ca]) ∧ Hid (SA wr G m1 T m2 A k gs ts xs) ∧ Hid (RowsB wr 0 (.slice (some ⟨g5, 0, none⟩) N5 cap5) us xs.length L) ∧ Hid (Below w.heap.size w wr))
            case atStart => exact ⟨0, 0, by omega, rfl, rfl, Lib.hid rfl, by omega, bS, bA, hSA, Lib.hid (hR.out.rebase (Nat.zero_le _)), hbw⟩
            case round =>
              clear bS bA hSA hbw s0 s1 a0 lS lA hR
              obtain ⟨i, cnt, hi, rfl, rfl, hcnt, hcl, bS, bA, hSA, hR, hbw⟩ := hrel
              have s0 := bS.out.cell 0 _ rfl
              have s1 := bS.out.cell 1 _ rfl
              have a0 := bA.out.cell 0 _ rfl
              have lS := bS.out.lt
              have lA := bA.out.lt
              by_cases hiN : i < N5
              · have hiI : (i : Int) < (N5 : Int) := by omega
                have hi0 : (0 : Int) ≤ (i : Int) := by omega
                obtain ⟨u, hu⟩ : ∃ u, us[i]? = some u := ⟨_, List.getElem?_eq_getElem (by rw [husH.out]; exact hiN)⟩
                obtain ⟨d, hd⟩ : ∃ d, L[i]? = some d := ⟨_, List.getElem?_eq_getElem (by rw [hLNH.out]; exact hiN)⟩
                obtain ⟨np, hnp⟩ := hR.out.inner i u d hu hd
                obtain ⟨Fp, cp5, rfl⟩ := ownsRow_form hnp
                have hlp : (idxL d xs.length).length = np := by have := hnp.1; simpa using this
                have hnpk : np ≤ k := by rw [← hlp, ← hl3]; exact idxL_len _ _
                have hou := hR.out.outer
                rw [husH.out] at hou
                have g0 := (hou.cellAt i (by omega)).trans hu
                have gl := (hou.lt g5 rfl).2
                have hrF := Lib.hid (rdI hnp hlp.symm)
                have hdH := Lib.hid hd
                have hlpH := Lib.hid hlp
                clear hu hd hnp hlp hou
                go_wp2_with fail
                refine wp_region_fl 9 [(0, .q), (1, .q), (2, .q), (3, .q), (4, .q), (5, .g), (6, .q), (7, .q), (8, .p)] [(10, .b), (11, .q)] _ (Obj.cells #[.slice none 0 0] 30) (by kernel_rfl) (by kernel_rfl) (by kernel_rfl) (by kernel_rfl) rfl (fun a w => ⟨rfl, by unfold flPtr; go_simp⟩) ?_
                simp only [pick, List.filterMap_cons, List.filterMap_nil, List.getElem?_toArray, List.getElem?_cons_zero, List.getElem?_cons_succ, Option.map_some]
                repeat (first | ((with_reducible refine wpL_p (fun K hK => ?_)); go_simp; refine hK _ ?_; clear hK K) | ((with_reducible refine wpL_q (fun K hK => ?_)); go_simp; (first | refine hK _ ?_ | (go_bits; refine hK _ ?_) | (go_bits; go_simp; refine hK _ ?_)); clear hK K))
                with_reducible refine wpL_g rfl (fun K hK st4 u4 mv4 => ?_)
                have hu4 := mv4.below
                have fu4 := (FlAt.none (Obj.cells #[.slice none 0 0] 30) (World.drew wr)).mv mv4
                have j4 : Below wr.heap.size wr u4 := (Below.refl _ wr).drew.trans (hu4.mono (Nat.le_refl _))
                clear mv4
                go_simp
                refine (iSubO (hSA.out.A.below RPl.stable j4) hv.out (hrF.out.below RInt.stable j4)).mono ?_
                rintro e wb ⟨A9, q9, c9, rfl, hown9, hq9, hb6⟩
                refine ⟨_, rfl, hb6, hK _ _ _ ?_⟩
                clear hK K
                have fd4 := fu4.below hb6
                have j5 : Below wr.heap.size wr wb := j4.trans (hb6.mono j4.size)
                repeat (first | ((with_reducible refine wpL_p (fun K hK => ?_)); go_simp; refine hK _ ?_; clear hK K) | ((with_reducible refine wpL_q (fun K hK => ?_)); go_simp; (first | refine hK _ ?_ | (go_bits; refine hK _ ?_) | (go_bits; go_simp; refine hK _ ?_)); clear hK K))
                with_reducible refine wpL_nil (fun b9 wc mvF => ?_)
                have huF := mvF.below
                obtain ⟨fl9, fb9⟩ := (fd4.mv mvF).2 _ rfl
                have j8 : Below wr.heap.size wr wc := j5.trans (huF.mono j5.size)
                clear mvF
                simp only [World.size_drew] at fl9
                have rF : wc.rowIs b9 30 1 (fun i => (#[.slice none 0 0] : Array Value).getD i undef) := ⟨_, fb9, rfl, fun i hi => by simp [hi]⟩
                have f0 : wc.cell? ⟨b9, 0, none⟩ = some (.slice none 0 0) := rF.cell (i := 0) (by decide)
                have f1 : wc.frozen? ⟨b9, 0, none⟩ = false := rF.frozen 0
                have lF : b9 < wc.heap.size := (Array.getElem?_eq_some_iff.1 fb9).1
                have hown9c := ownsRow_below hown9 huF
                have hownD := Lib.hid (ownsRow_setCell_other (a := ⟨b9, 0, none⟩) hown9c (own_ne_row hown9c rF (by decide)) (.slice A9 q9 c9))
                have hq9H := Lib.hid hq9
                have hbD : Below wr.heap.size wr (wc.setCell ⟨b9, 0, none⟩ (.slice A9 q9 c9)) := j8.setCell (p := ⟨b9, 0, none⟩) fl9 _
                have hbDH := Lib.hid hbD
                clear hown9 hown9c rF fb9 huF hb6 hu4 fu4 fd4 j4 j5 hbD
                simp only [flPtr]
                with_reducible refine wpD_b (fun K hK => ?_)
                go_simp
                refine hK _ _ ?_
                clear hK K
                repeat (first | ((with_reducible refine wpD_p (fun K hK => ?_)); go_simp; refine hK _ ?_; clear hK K) | ((with_reducible refine wpD_q (fun K hK => ?_)); go_simp; (first | refine hK _ ?_ | (go_bits; refine hK _ ?_) | (go_bits; go_simp; refine hK _ ?_)); clear hK K))
                with_reducible refine wpD_nil ?_
                obtain ⟨wd, hwd⟩ : ∃ wd, wd = wc.setCell ⟨b9, 0, none⟩ (.slice A9 q9 c9) := ⟨_, rfl⟩
                rw [← hwd]
                have hb : Below wr.heap.size wr wd := by rw [hwd]; exact hbDH.out
                have z9 : wd.cell? ⟨b9, 0, none⟩ = some (.slice A9 q9 c9) := by rw [hwd]; go_simp
                have z9l : b9 < wd.heap.size := by rw [hwd]; simpa using lF
                have hown := hownD.out
                rw [← hwd] at hown
                have hPl := Lib.hid (rdPl hown hq9H.out.symm)
                have vs := Lib.hid (asm_of_valid (sel_valid hV.out d) (valid_set hv.out))
                have hhs := Lib.hid (show holdsB q9 (bondsL gs ts (selL d xs)) t = true by rw [← hq9H.out]; exact hst.out i d hdH.out)
                have hq9l : q9 ≤ 64 := by rw [← hq9H.out, selL_len]; have := idxL_len d xs.length; omega
                replace g0 := (hb.cell (p := ⟨g5, i, none⟩) gl).trans g0
                replace gl := Nat.lt_of_lt_of_le gl hb.size
                replace bS := Lib.hid (bS.out.below hb)
                replace bA := Lib.hid (bA.out.below hb)
                replace hSA := Lib.hid (hSA.out.below hb)
                replace hbw := Lib.hid (hbw.out.trans (hb.mono hbw.out.size))
                replace hR := Lib.hid (hR.out.below hb)
                replace s0 := bS.out.cell 0 _ rfl
                replace s1 := bS.out.cell 1 _ rfl
                replace a0 := bA.out.cell 0 _ rfl
                replace lS := bS.out.lt
                replace lA := bA.out.lt
                clear hb hown hownD hbDH hwd f0 f1 lF j8 fl9 hrF
                go_wp2_with fail
                refine (iStab (SA.of_valid hSA.out.G hSA.out.T hPl.out vs.out) vs.out hq9l ht1 (by omega) hhs.out).mono ?_
                rintro e we ⟨rfl, hb⟩
                replace g0 := (hb.cell (p := ⟨g5, i, none⟩) gl).trans g0
                replace gl := Nat.lt_of_lt_of_le gl hb.size
                replace bS := Lib.hid (bS.out.below hb)
                replace bA := Lib.hid (bA.out.below hb)
                replace hSA := Lib.hid (hSA.out.below hb)
                replace hbw := Lib.hid (hbw.out.trans (hb.mono hbw.out.size))
                replace hR := Lib.hid (hR.out.below hb)
                replace s0 := bS.out.cell 0 _ rfl
                replace s1 := bS.out.cell 1 _ rfl
                replace a0 := bA.out.cell 0 _ rfl
                replace lS := bS.out.lt
                replace lA := bA.out.lt
                clear hb
                have hcw : IntKind.i64.wrap ((cnt : Int) + (np : Int)) = ((cnt + np : Nat) : Int) := by rw [wrapI (by omega) (by omega)]; omega
                have hcn := Lib.hid (show cnt + np = cntB xs.length (L.take (i + 1)) by rw [cntB_take hdH.out, hlpH.out, ← hcnt.out])
                clear hPl vs hhs z9 z9l
                go_wp2
                go_roundg (N5 - (i + 1))
                case measure => omega
                case rel => exact ⟨i + 1, cnt + np, by omega, by go_num, by go_num, hcn, by omega, bS, bA, hSA, hR, hbw⟩
              · obtain rfl : i = N5 := by omega
                have hiI : ¬ (i : Int) < (i : Int) := by omega
                have hcE : cnt = k := by rw [hcnt.out, List.take_of_length_le (by rw [hLNH.out]; exact Nat.le_refl _), hsumH.out]
                have hcI : ((cnt : Int) != (k : Int)) = false := by rw [hcE]; simp
                subst hcE
                go_wp2
                go_roundg (5 - (t + 1))
                case measure => omega
                case rel => exact ⟨t + 1, by omega, by omega, by go_num, bS, bA, hSA, hbw⟩
          · have ht5i : ¬ (t : Int) < 5 := by omega
            go_wp2
            go_ret
            exact ⟨rfl, hbw.out⟩
end Go.Proofs.YtmhgjgclclnmaaaGreat
