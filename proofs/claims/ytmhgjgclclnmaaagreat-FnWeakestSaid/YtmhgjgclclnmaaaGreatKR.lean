import Derived.Test.YtmhgjgclclnmaaaGreatKH
import Derived.OneCell
import Derived.Test.YtmhgjgclclnmaaaGreatKB
import Derived.Test.YtmhgjgclclnmaaaGreatKQ
import Derived.Test.YtmhgjgclclnmaaaGreatKF
import Derived.Test.YtmhgjgclclnmaaaGreatShelfB
import Derived.Sort.OwnSortedInts
import Derived.Shelf.SlSortCmp.Whole1
import Derived.Test.YtmhgjgclclnmaaaGreatOrdApp
import Derived.Test.YtmhgjgclclnmaaaGreatKI
import Derived.Test.YtmhgjgclclnmaaaGreatKX
set_option linter.unusedSimpArgs false
set_option linter.unusedVariables false
/- Rows of one type lie in no block of another type. -/


namespace Go.Proofs.YtmhgjgclclnmaaaGreat
theorem own_ne_row {w : World} {base : Nat} {e T : TypeId} {size : Nat} {v : Value} {n : Nat} {xs : List Value} {g N : Nat} {f : Nat → Value} (h : w.ownsRow base e size v n xs) (hr : w.rowIs g T N f) (hne : e ≠ T) : v.ownBlock ≠ some g := by
  rcases h.2 with ⟨rfl, _⟩ | ⟨g', cap, cur, rfl, _, hh, _⟩
  · intro hc
    cases hc
  · intro hc
    have hg : some g' = some g := hc
    injection hg with hg
    subst hg
    obtain ⟨cur', hh', _⟩ := hr
    have := Option.some.inj (hh.symm.trans hh')
    injection this with _ h3
    exact hne h3
end Go.Proofs.YtmhgjgclclnmaaaGreat
/- Walk: breakApart, by classes. -/





namespace Go.Proofs.YtmhgjgclclnmaaaGreat
open Go.RowKit Go.Shelf
attribute [local go_sem] BelowBy.cell BelowBy.cell_drew stillUpon givesUpon BelowBy.cell_drew2 BelowBy.cell_drew3

/-- rows of numbers: the outer row is the call's own, what it holds are rows (of whomever) that list the places of classes -/
structure RowsB (w : World) (base : Nat) (v : Value) (us : List Value) (q : Nat) (L : List (Nat → Bool)) : Prop where
  outer : w.ownsRow base 33 1 v us.length us
  len : us.length = L.length
  inner : ∀ (k : Nat) (u : Value) (d : Nat → Bool), us[k]? = some u → L[k]? = some d → ∃ n, w.ownsRow 0 2 1 u n ((idxL d q).map (Value.int .i64))
theorem own_ne_ownB {w : World} {b1 b2 e1 e2 s1 s2 n1 n2 : Nat} {v1 v2 : Value} {x1 x2 : List Value} (h1 : w.ownsRow b1 e1 s1 v1 n1 x1) (h2 : w.ownsRow b2 e2 s2 v2 n2 x2) (hne : e1 ≠ e2) : ∀ g, v1.ownBlock = some g → v2.ownBlock ≠ some g := by
  intro g hg hg2
  rcases h2.2 with ⟨rfl, _⟩ | ⟨g', cap, cur, rfl, _, hh, _⟩
  · cases hg2
  · injection hg2 with hg2
    subst hg2
    exact own_ne_row (f := fun i => cur.getD i undef) (N := cur.size) h1 ⟨cur, hh, rfl, fun i hi => by simp [hi]⟩ hne hg
theorem ownsRow_posB {w : World} {base s N c : Nat} {e : TypeId} {A : Option Addr} {xs : List Value} (h : w.ownsRow base e s (.slice A N c) N xs) (hN : 0 < N) : ∃ g, A = some ⟨g, 0, none⟩ := by
  rcases h.2 with ⟨_, h0⟩ | ⟨g, cap, cur, hv, _⟩
  · omega
  · injection hv with h1 h2 h3
    exact ⟨g, h1⟩
section
variable {w w' : World} {base q : Nat} {v : Value} {us : List Value} {L : List (Nat → Bool)}
theorem RowsB.below (h : RowsB w base v us q L) (hb : Below w.heap.size w w') : RowsB w' base v us q L :=
  ⟨ownsRow_below h.outer hb, h.len, fun k u d hu hd => (h.inner k u d hu hd).imp fun n hn => ownsRow_below hn hb⟩
theorem RowsB.rebase {base' : Nat} (h : RowsB w base v us q L) (hl : base' ≤ base) : RowsB w base' v us q L := ⟨ownsRow_base h.outer hl, h.len, h.inner⟩
/-- a turn of an outer row keeps the inner ones -/
theorem inner_grown {b n : Nat} {r : Value} {x : List Value} (h : w.ownsRow b 33 1 r n x) (hg : w.grownBy w' r.ownBlock) {n1 : Nat} {u : Value} {y : List Value} (hu : w.ownsRow 0 2 1 u n1 y) : w'.ownsRow 0 2 1 u n1 y := by
  refine hu.kept hg ?_
  cases hb : u.ownBlock with
  | none => exact .inl rfl
  | some g => exact .inr fun e => own_ne_ownB hu h (by decide) g hb e.symm
/-- both lists behind each other -/
theorem RowsB.app {base2 n : Nat} {v2 v' : Value} {us2 : List Value} {L2 : List (Nat → Bool)} (h1 : RowsB w base v us q L) (h2 : RowsB w base2 v2 us2 q L2) (hown : w'.ownsRow base 33 1 v' n (us ++ us2)) (hn : n = us.length + us2.length) (hg : w.grownBy w' v.ownBlock) : RowsB w' base v' (us ++ us2) q (L ++ L2) := by
  subst hn
  refine ⟨by rw [List.length_append]; exact hown, by rw [List.length_append, List.length_append, h1.len, h2.len], fun k u d hu hd => ?_⟩
  rcases Nat.lt_or_ge k us.length with hk | hk
  · rw [List.getElem?_append_left hk] at hu
    rw [List.getElem?_append_left (by rw [← h1.len]; exact hk)] at hd
    obtain ⟨m, hm⟩ := h1.inner k u d hu hd
    exact ⟨m, inner_grown h1.outer hg hm⟩
  · rw [List.getElem?_append_right hk] at hu
    rw [List.getElem?_append_right (by rw [← h1.len]; exact hk), ← h1.len] at hd
    obtain ⟨m, hm⟩ := h2.inner _ u d hu hd
    exact ⟨m, inner_grown h1.outer hg hm⟩
theorem RowsB.cells1 (h : RowsB w base v us q L) : ∀ u ∈ us, u.oneCell' = true := by
  intro u hu
  obtain ⟨k, hk⟩ := List.mem_iff_getElem?.1 hu
  have hkl := (List.getElem?_eq_some_iff.1 hk).1
  obtain ⟨n, hn⟩ := h.inner k u _ hk (List.getElem?_eq_getElem (by rw [← h.len]; exact hkl))
  obtain ⟨A, c, rfl⟩ := ownsRow_form hn
  rfl
/-- one row -/
theorem RowsB.single {F : Value} {nf : Nat} {c : Nat → Bool} (h : w.ownsRow 0 2 1 F nf ((idxL c q).map (Value.int .i64))) : RowsB (w.alloc (Obj.cells #[F] 33)) w.heap.size (.slice (some ⟨w.heap.size, 0, none⟩) 1 1) [F] q [c] := by
  refine ⟨World.ownsRow_lit w #[F] 1 (Nat.le_refl _) (by unfold maxLen; omega) rfl, rfl, fun k u d hu hd => ?_⟩
  match k with
  | 0 =>
    simp at hu hd
    subst hu hd
    exact ⟨nf, h.alloc _⟩
  | k + 1 => simp at hu
end
/-- what breakApart answers -/
def BrkRes (gs : List Gl) (ts : List Ti) (xs : List Pl) (t : Nat) (c : Nat → Bool) (nf : Nat) (w : World) (e : Ending) (w' : World) : Prop :=
  ∃ (v : Value) (us : List Value) (L : List (Nat → Bool)), e = .returned v ∧ RowsB w' w.heap.size v us xs.length L ∧ Brk gs ts xs t c L ∧ L.length ≤ max 1 nf ∧ Below w.heap.size w w'
theorem St_few {gs : List Gl} {ts : List Ti} {xs : List Pl} {t : Nat} {c : Nat → Bool} (h : (idxL c xs.length).length < 2) : St gs ts xs t c := by
  unfold St
  rw [selL_len]
  exact holdsB_few h _ _
theorem St_weak {gs : List Gl} {ts : List Ti} {xs : List Pl} {t m : Nat} {c : Nat → Bool} (hm : (idxL c xs.length).length = m) (h : 2 ≤ m) : St gs ts xs t c ↔ (t : Int) ≤ (weakR m (bondsL gs ts (selL c xs))).1 := by
  unfold St
  rw [selL_len, hm, holdsB_weak (by omega), decide_eq_true_eq]
set_option maxRecDepth 100000 in
set_option maxHeartbeats 16000000 in
theorem breakApart_any (gs : List Gl) (ts : List Ti) (xs : List Pl) (t : Nat) (hv : validAsmB gs ts xs = true) (h64 : xs.length ≤ 64) (ht : t ≤ 100) : ∀ (M : Nat) (c : Nat → Bool) (G T A F : Option Addr) (n cg m ct q ca nf cf : Nat) (w : World), nf ≤ M → SA w G n T m A q gs ts xs →
    w.ownsRow 0 2 1 (.slice F nf cf) nf ((idxL c xs.length).map (Value.int .i64)) → (idxL c xs.length).length = nf →
    Calls Tryz.prog 80 #[.agg #[.slice G n cg, .slice T m ct], .agg #[.slice A q ca], .slice F nf cf, .int .i64 (t : Int)] w (BrkRes gs ts xs t c nf w) := by
  obtain ⟨i0, hi, hz0, hz1, hz2⟩ := info_parts infoGs
  obtain ⟨iI, hI, hI0, hI1, hI2⟩ := info_parts infoI
  have hvH := Lib.hid hv
  have hVH := Lib.hid (valid_of hv)
  clear hv
  intro M
  induction M with
  | zero =>
    intro c G T A F n cg m ct q ca nf cf w hM hSA0 hF0 hl0
    obtain rfl : nf = 0 := by omega
    have hFH := Lib.hid hF0
    have hStH := Lib.hid (St_few (gs := gs) (ts := ts) (t := t) (c := c) (xs := xs) (by omega))
    have hn2 : ((0 : Nat) : Int) < 2 := by omega
    clear hSA0 hF0
    go_enter Tryz.func80, Tryz.ntmps80
    go_wp2
    go_ret
    exact ⟨.slice (some ⟨w.heap.size + 1 + 1, 0, none⟩) 1 1, _, [c], rfl, (by have hz := (RowsB.single (ownsRow_below (ownsRow_below hFH.out (bl_al (bl_refl _) (Obj.cells #[.slice G n cg, .slice T m ct] 27))) (bl_al (bl_refl _) (Obj.cells #[.slice A q ca] 30)))).rebase (base' := w.heap.size) (by simp; omega); simp only [World.size_alloc] at hz; exact hz), .leaf c hStH.out, (by simp only [List.length_cons, List.length_nil]; omega), bl_al (bl_al (bl_al (bl_refl _) _) _) _⟩
  | succ M ih =>
    intro c G T A F n cg m ct q ca nf cf w hM hSA0 hF0 hl0
    have ihH := Lib.hid ih
    have hSA := Lib.hid hSA0
    have hFH := Lib.hid hF0
    have hlH := Lib.hid hl0
    have hql := hSA0.A.len
    have hnfq : nf ≤ xs.length := by rw [← hl0]; exact idxL_len _ _
    clear ih hSA0 hF0 hl0
    by_cases h2 : nf < 2
    · have hStH := Lib.hid (St_few (gs := gs) (ts := ts) (t := t) (c := c) (xs := xs) (by rw [hlH.out]; exact h2))
      have hn2 : (nf : Int) < 2 := by omega
      go_enter Tryz.func80, Tryz.ntmps80
      go_wp2
      go_ret
      exact ⟨.slice (some ⟨w.heap.size + 1 + 1, 0, none⟩) 1 1, _, [c], rfl, (by have hz := (RowsB.single (ownsRow_below (ownsRow_below hFH.out (bl_al (bl_refl _) (Obj.cells #[.slice G n cg, .slice T m ct] 27))) (bl_al (bl_refl _) (Obj.cells #[.slice A q ca] 30)))).rebase (base' := w.heap.size) (by simp; omega); simp only [World.size_alloc] at hz; exact hz), .leaf c hStH.out, (by simp only [List.length_cons, List.length_nil]; omega), bl_al (bl_al (bl_al (bl_refl _) _) _) _⟩
    · have hn2 : ¬ (nf : Int) < 2 := by omega
      have hVs := sel_valid hVH.out c
      have hml : (selL c xs).length = nf := by rw [selL_len, hlH.out]
      have hbq := Lib.hid (show BondsOk nf (bondsL gs ts (selL c xs)) by rw [← hml]; exact bondsOk hVs)
      have hbl := bondsL_len hVs
      have hvs := Lib.hid (asm_of_valid hVs (valid_set hvH.out))
      have hVsH := Lib.hid hVs
      have hrdF := Lib.hid (show RdSl 1 RInt w F nf (idxL c xs.length) from rdI hFH.out hlH.out.symm)
      clear hVs
      obtain ⟨WR, hWR⟩ : ∃ WR, (weakR nf (bondsL gs ts (selL c xs))).1 = WR := ⟨_, rfl⟩
      have hsw := Lib.hid (St_weak (gs := gs) (ts := ts) (xs := xs) (t := t) hlH.out (by omega))
      rw [hWR] at hsw
      obtain ⟨d, hd1, hd2, hd3⟩ := split_weak (gs := gs) (ts := ts) hVH.out hlH.out (by omega)
      have hd1H := Lib.hid hd1
      have hd2H := Lib.hid hd2
      have hd3H := Lib.hid hd3
      have hWRH := Lib.hid hWR
      clear hd1 hd2 hd3 hWR
      go_enter Tryz.func80, Tryz.ntmps80
      go_wp2_with fail
      refine wp_region_ord [(0, .q), (1, .q), (2, .q), (3, .q), (4, .q), (5, .g), (6, .g), (7, .g), (8, .q), (9, .q), (10, .q), (11, .q), (12, .q)] (by kernel_rfl) (by kernel_rfl) ?_
      simp only [pick, List.filterMap_cons, List.filterMap_nil, List.getElem?_toArray, List.getElem?_cons_zero, List.getElem?_cons_succ, Option.map_some]
      repeat (first | ((with_reducible refine wpD_p (fun K hK => ?_)); go_simp; refine hK _ ?_; clear hK K) | ((with_reducible refine wpD_q (fun K hK => ?_)); go_simp; (first | refine hK _ ?_ | (go_bits; refine hK _ ?_) | (go_bits; go_simp; refine hK _ ?_)); clear hK K))
      with_reducible refine wpD_g (fun K hK => ?_)
      go_simp
      refine (subK_any (hSA.out.A.below RPl.stable (by exact bel_)) (hrdF.out.below RInt.stable (by exact bel_)) (by omega) (by omega) (fun v hv => by obtain ⟨i, e, hi, _⟩ := idxL_mem c _ v hv; exact ⟨i, e, by omega⟩)).mono ?_
      rintro e w1 ⟨A1, ca1, rfl, hrow1, hb1⟩
      rw [show (idxL c xs.length).map (plK xs) = selL c xs from rfl] at hrow1 ⊢
      have hB1 := Lib.hid (show Below w.heap.size w w1 by exact bel_)
      have ca1' := (hb1.cell (p := ⟨w.heap.size + 1, 0, none⟩) (by simp)).trans (show _ = some (Value.slice A q ca) by go_simp)
      have cg1' := (hb1.cell (p := ⟨w.heap.size, 0, none⟩) (by simp; omega)).trans (show _ = some (Value.slice G n cg) by go_simp)
      have ct1' := (hb1.cell (p := ⟨w.heap.size, 1, none⟩) (by simp; omega)).trans (show _ = some (Value.slice T m ct) by go_simp)
      have la1' : w.heap.size + 1 < w1.heap.size := by have := hb1.size; simp at this; omega
      have hSs := Lib.hid (SA.of_valid (hSA.out.G.below RGl.stable hB1.out) (hSA.out.T.below RTi.stable hB1.out) (rdPl hrow1) hvs.out)
      rw [hml] at hSs ⊢
      refine ⟨_, rfl, hb1, hK _ _ ?_⟩
      clear hK K hrow1
      with_reducible refine wpD_g (fun K hK => ?_)
      go_simp
      refine (hSs.out.bonds hVsH.out).mono ?_
      rintro e w2 ⟨v, rfl, hrow, hb2⟩
      obtain ⟨B, cb, rfl, hB⟩ := rd_of_row hrow
      refine ⟨_, rfl, hb2, hK _ _ ?_⟩
      clear hK K hrow
      have hBH := Lib.hid hB
      clear hB
      with_reducible refine wpD_g (fun K hK => ?_)
      go_simp
      refine (weakest_any nf B _ cb (bondsL gs ts (selL c xs)) _ hBH.out hbq.out (by omega) (by omega) (by omega)).mono ?_
      rintro e w3 ⟨v3, rfl, hrow3, hb3⟩
      rw [hWRH.out]
      refine ⟨_, rfl, hb3, hK _ _ ?_⟩
      obtain ⟨A3, cc3, rfl, hrd3⟩ := rdI_of hrow3
      rw [show intsI (weakR nf (bondsL gs ts (selL c xs))).2 = idxL d nf from hd1H.out] at hrd3 ⊢
      obtain ⟨N3, hN3⟩ : ∃ N3, (idxL d nf).length = N3 := ⟨_, rfl⟩
      have hN3l : N3 ≤ nf := by rw [← hN3]; exact idxL_len _ _
      rw [hN3] at hrd3 ⊢
      have hrd3H := Lib.hid hrd3
      clear hK K hrow3 hrd3 hN3
      repeat (first | ((with_reducible refine wpD_p (fun K hK => ?_)); go_simp; refine hK _ ?_; clear hK K) | ((with_reducible refine wpD_q (fun K hK => ?_)); go_simp; (first | refine hK _ ?_ | (go_bits; refine hK _ ?_) | (go_bits; go_simp; refine hK _ ?_)); clear hK K))
      with_reducible refine wpD_nil ?_
      have hb13 : Below w1.heap.size w1 w3 := hb2.trans (hb3.mono hb2.size)
      have s13 := hb13.size
      have ca3 := (hb13.cell (p := ⟨w.heap.size + 1, 0, none⟩) la1').trans ca1'
      have cg3 := (hb13.cell (p := ⟨w.heap.size, 0, none⟩) (show w.heap.size < w1.heap.size by omega)).trans cg1'
      have ct3 := (hb13.cell (p := ⟨w.heap.size, 1, none⟩) (show w.heap.size < w1.heap.size by omega)).trans ct1'
      have la3 : w.heap.size + 1 < w3.heap.size := by omega
      have lg3 : w.heap.size < w3.heap.size := by omega
      have hB3 := Lib.hid (hB1.out.trans (hb13.mono hB1.out.size))
      clear hb13 hb1 hb2 hb3 ca1' cg1' ct1' la1' hSs
      by_cases hst : (t : Int) ≤ WR
      · have hSt := Lib.hid (hsw.out.2 hst)
        have hF3 := Lib.hid (ownsRow_below hFH.out hB3.out)
        go_wp2
        go_ret
        exact ⟨_, _, [c], rfl, (RowsB.single hF3.out).rebase (by omega), .leaf c hSt.out, by simp; omega, hB3.out.trans ((bl_al (bl_refl _) _).mono hB3.out.size)⟩
      · have hnSt := Lib.hid (fun h => hst (hsw.out.1 h) : ¬ St gs ts xs t c)
        have hrdF3 := Lib.hid (hrdF.out.below RInt.stable hB3.out)
        obtain ⟨p1, hp1⟩ : ∃ p1 : Nat → Bool, p1 = fun i => !d (idxL c i).length := ⟨_, rfl⟩
        obtain ⟨p2, hp2⟩ : ∃ p2 : Nat → Bool, p2 = fun i => d (idxL c i).length := ⟨_, rfl⟩
        have hp1H := Lib.hid hp1
        have hp2H := Lib.hid hp2
        clear hp1 hp2
        go_wp2
        go_loopg [38, 11, 12] nf (fun gk i v u wr => ∃ (j n1 n2 : Nat) (F1 F2 : Option Addr) (c1 c2 : Nat), j + gk = nf ∧ i = .int .i64 (j : Int) ∧ v = .slice F1 n1 c1 ∧ u = .slice F2 n2 c2 ∧ n1 ≤ j ∧ n2 ≤ j ∧ Hid ((preL c xs.length j p1).length = n1) ∧ Hid ((preL c xs.length j p2).length = n2) ∧ Hid (wr.ownsRow w3.heap.size 2 1 (.slice F1 n1 c1) n1 ((preL c xs.length j p1).map (Value.int .i64))) ∧ Hid (wr.ownsRow w3.heap.size 2 1 (.slice F2 n2 c2) n2 ((preL c xs.length j p2).map (Value.int .i64))) ∧ Hid (ApartV (.slice F1 n1 c1) (.slice F2 n2 c2)) ∧ Hid (Below w3.heap.size w3 wr))
        case atStart => exact ⟨0, 0, 0, none, none, 0, 0, by omega, rfl, rfl, rfl, by omega, by omega, Lib.hid rfl, Lib.hid rfl, Lib.hid (World.ownsRow_nil _ _ _ _), Lib.hid (World.ownsRow_nil _ _ _ _), Lib.hid (fun g g' h => by cases h), Lib.hid (bl_refl _)⟩
        case round =>
          obtain ⟨j, n1, n2, F1, F2, c1, c2, hj, rfl, rfl, rfl, hj1, hj2, hk1, hk2, r1, r2, ap, hbw⟩ := hrel
          have hsz := hbw.out.size
          by_cases hjn : j < nf
          · have hjI : (j : Int) < (nf : Int) := by omega
            have hj0 : (0 : Int) ≤ (j : Int) := by omega
            have hFr := hrdF3.out.below RInt.stable hbw.out
            obtain ⟨v, hvj⟩ := hFr.get hjn
            obtain ⟨bf, of_, hFe, hbf, hcf⟩ := hFr.ptr (by omega)
            have z0 := hcf j v hvj
            unfold RInt at z0
            simp only [Nat.mul_one] at z0
            obtain ⟨x, rfl, hxq, hcx, hpx⟩ := idxL_get hvj
            have hvjH := Lib.hid hvj
            have h3r := Lib.hid (hrd3H.out.below RInt.stable hbw.out)
            obtain ⟨dj, hdj⟩ : ∃ dj, d j = dj := ⟨_, rfl⟩
            have hhas := Lib.hid (show hasB (idxL d nf) (j : Int) = dj by rw [hasB_idx hjn]; exact hdj)
            have hpxH := Lib.hid hpx
            subst hFe
            clear hcf hFr hvj hpx
            cases dj
            · have e1 := Lib.hid (show p1 x = true by rw [hp1H.out]; show (!d (idxL c x).length) = true; rw [hpxH.out, hdj]; rfl)
              have e2 := Lib.hid (show p2 x = false by rw [hp2H.out]; show d (idxL c x).length = false; rw [hpxH.out, hdj])
              clear hdj
              go_wp2_with (first
                | (go_at_call 111; refine (ContainsI_any _ _ _ (idxL d nf) _ _ h3r.out (by omega)).mono ?_; rw [hhas.out]; rintro e w' ⟨rfl, rfl⟩)
                | (at_builtin; have hA4 : Below wr.heap.size wr (wr.alloc (Obj.cells #[.int .i64 (x : Int)] 2)) := bl_al (bl_refl _) _; refine wpList_append_own_at _ rfl _ _ 33 rfl w3.heap.size 2 iI (.int .i64 0) 1 8 Tryz.underlying33 hI hI0 hI1 hI2 rfl (by decide) (.slice F1 n1 c1) n1 ((preL c xs.length j p1).map (Value.int .i64)) rfl (ownsRow_below r1.out hA4) ⟨wr.heap.size, 0, none⟩ 1 1 [.int .i64 (x : Int)] rfl rfl (cell_one_new _ _ _) (fun x hx => by simp at hx; subst hx; rfl) (by unfold maxLen; omega) (by omega) (by simp; omega) ?_; intro v5 w5 hown5 hgrow5 h5a h5b; obtain ⟨A5, c5, rfl⟩ := ownsRow_form hown5; have hbX : Below w3.heap.size wr w5 := (hA4.mono hsz).grown hgrow5 (by simp; omega) (fun g e => (r1.out.lt g e).1); have hbw5 := Lib.hid (hbw.out.trans hbX); have rO5 := Lib.hid (own_apart (ownsRow_below r2.out hA4) hgrow5 ap.out); have ap5 := Lib.hid (show ApartV (.slice A5 (n1 + 1) c5) (.slice F2 n2 c2) by first | exact apart_moved (ownsRow_below r2.out hA4) ap.out h5a | exact apart_moved (ownsRow_below r2.out hA4) ap.out h5b); have hown5H := Lib.hid hown5; clear hown5 hgrow5 h5a h5b hbX hA4))
              go_roundg (nf - (j + 1))
              case measure => omega
              case rel => exact ⟨j + 1, n1 + 1, n2, A5, F2, c5, c2, by omega, by go_num, rfl, rfl, by omega, by omega, Lib.hid (by rw [preL_yes hvjH.out e1.out, List.length_append, hk1.out]; rfl), Lib.hid (by rw [preL_no hvjH.out e2.out]; exact hk2.out), Lib.hid (by rw [preL_yes hvjH.out e1.out, List.map_append]; exact hown5H.out), Lib.hid (by rw [preL_no hvjH.out e2.out]; exact rO5.out), ap5, hbw5⟩
            · have e1 := Lib.hid (show p1 x = false by rw [hp1H.out]; show (!d (idxL c x).length) = false; rw [hpxH.out, hdj]; rfl)
              have e2 := Lib.hid (show p2 x = true by rw [hp2H.out]; show d (idxL c x).length = true; rw [hpxH.out, hdj])
              clear hdj
              go_wp2_with (first
                | (go_at_call 111; refine (ContainsI_any _ _ _ (idxL d nf) _ _ h3r.out (by omega)).mono ?_; rw [hhas.out]; rintro e w' ⟨rfl, rfl⟩)
                | (at_builtin; have hA4 : Below wr.heap.size wr (wr.alloc (Obj.cells #[.int .i64 (x : Int)] 2)) := bl_al (bl_refl _) _; refine wpList_append_own_at _ rfl _ _ 33 rfl w3.heap.size 2 iI (.int .i64 0) 1 8 Tryz.underlying33 hI hI0 hI1 hI2 rfl (by decide) (.slice F2 n2 c2) n2 ((preL c xs.length j p2).map (Value.int .i64)) rfl (ownsRow_below r2.out hA4) ⟨wr.heap.size, 0, none⟩ 1 1 [.int .i64 (x : Int)] rfl rfl (cell_one_new _ _ _) (fun x hx => by simp at hx; subst hx; rfl) (by unfold maxLen; omega) (by omega) (by simp; omega) ?_; intro v5 w5 hown5 hgrow5 h5a h5b; obtain ⟨A5, c5, rfl⟩ := ownsRow_form hown5; have hbX : Below w3.heap.size wr w5 := (hA4.mono hsz).grown hgrow5 (by simp; omega) (fun g e => (r2.out.lt g e).1); have hbw5 := Lib.hid (hbw.out.trans hbX); have rO5 := Lib.hid (own_apart (ownsRow_below r1.out hA4) hgrow5 ap.out.symm); have ap5 := Lib.hid (show ApartV (.slice F1 n1 c1) (.slice A5 (n2 + 1) c5) by first | exact (apart_moved (ownsRow_below r1.out hA4) ap.out.symm h5a).symm | exact (apart_moved (ownsRow_below r1.out hA4) ap.out.symm h5b).symm); have hown5H := Lib.hid hown5; clear hown5 hgrow5 h5a h5b hbX hA4))
              go_roundg (nf - (j + 1))
              case measure => omega
              case rel => exact ⟨j + 1, n1, n2 + 1, F1, A5, c1, c5, by omega, by go_num, rfl, rfl, by omega, by omega, Lib.hid (by rw [preL_no hvjH.out e1.out]; exact hk1.out), Lib.hid (by rw [preL_yes hvjH.out e2.out, List.length_append, hk2.out]; rfl), Lib.hid (by rw [preL_no hvjH.out e1.out]; exact rO5.out), Lib.hid (by rw [preL_yes hvjH.out e2.out, List.map_append]; exact hown5H.out), ap5, hbw5⟩
          · obtain rfl : j = nf := by omega
            have hjI : ¬ (j : Int) < (j : Int) := by omega
            have f1 := preL_end (c := c) (p := p1) (q := xs.length) (j := j) (by rw [hlH.out]; exact Nat.le_refl _)
            have f2 := preL_end (c := c) (p := p2) (q := xs.length) (j := j) (by rw [hlH.out]; exact Nat.le_refl _)
            rw [show (fun i => c i && p1 i) = oneC c d by rw [hp1H.out]; rfl] at f1
            rw [show (fun i => c i && p2 i) = twoC c d by rw [hp2H.out]; rfl] at f2
            rw [f1] at hk1 r1
            rw [f2] at hk2 r2
            have hd2 := hd2H.out
            have hd3 := hd3H.out
            rw [hk1.out] at hd2
            rw [hk2.out] at hd3
            have hsum := idxL_split (k := xs.length) (fun i _ => parts_u c d i) (fun i _ => parts_d c d i)
            rw [hlH.out, hk1.out, hk2.out] at hsum
            have x1 := (hbw.out.cell (p := ⟨w.heap.size + 1, 0, none⟩) la3).trans ca3
            have x2 := (hbw.out.cell (p := ⟨w.heap.size, 0, none⟩) lg3).trans cg3
            have x3 := (hbw.out.cell (p := ⟨w.heap.size, 1, none⟩) lg3).trans ct3
            have l1 : w.heap.size + 1 < wr.heap.size := by omega
            have l0 : w.heap.size < wr.heap.size := by omega
            have hBr := Lib.hid (hB3.out.trans (hbw.out.mono hB3.out.size))
            have hSr := Lib.hid (hSA.out.below hBr.out)
            have q1 := Lib.hid (ownsRow_base r1.out (Nat.zero_le _))
            have q2 := Lib.hid (ownsRow_base r2.out (Nat.zero_le _))
            clear f1 f2
            go_wp2
            refine wp_region_ord [(0, .q), (1, .q), (2, .q), (3, .q), (5, .q), (6, .q), (7, .q), (8, .q), (4, .g), (9, .g), (10, .b), (11, .q)] (by kernel_rfl) (by kernel_rfl) ?_
            simp only [pick, List.filterMap_cons, List.filterMap_nil, List.getElem?_toArray, List.getElem?_cons_zero, List.getElem?_cons_succ, Option.map_some]
            repeat (first | ((with_reducible refine wpD_p (fun K hK => ?_)); go_simp; refine hK _ ?_; clear hK K) | ((with_reducible refine wpD_q (fun K hK => ?_)); go_simp; (first | refine hK _ ?_ | (go_bits; refine hK _ ?_) | (go_bits; go_simp; refine hK _ ?_)); clear hK K))
            with_reducible refine wpD_g (fun K hK => ?_)
            go_simp
            refine (ihH.out (oneC c d) G T A F1 n cg m ct q ca n1 c1 _ (by omega) (hSr.out.below (by exact bel_)) (ownsRow_below q1.out (by exact bel_)) hk1.out).mono ?_
            rintro e w5 ⟨v5, us5, L5, rfl, hR5, hK5, hl5, hb5⟩
            refine ⟨_, rfl, hb5, hK _ _ ?_⟩
            have hbA : Below wr.heap.size wr w5 := by exact bel_
            have hs5 := hbA.size
            have hR5H := Lib.hid (hR5.rebase (base' := w.heap.size) (by simp; omega))
            have hK5H := Lib.hid hK5
            have hbAH := Lib.hid hbA
            have y1 := (hbA.cell (p := ⟨w.heap.size + 1, 0, none⟩) l1).trans x1
            have y2 := (hbA.cell (p := ⟨w.heap.size, 0, none⟩) l0).trans x2
            have y3 := (hbA.cell (p := ⟨w.heap.size, 1, none⟩) l0).trans x3
            have m1 : w.heap.size + 1 < w5.heap.size := by omega
            have m0 : w.heap.size < w5.heap.size := by omega
            clear hK K hR5 hK5 hbA hb5
            repeat (first | ((with_reducible refine wpD_p (fun K hK => ?_)); go_simp; refine hK _ ?_; clear hK K) | ((with_reducible refine wpD_q (fun K hK => ?_)); go_simp; (first | refine hK _ ?_ | (go_bits; refine hK _ ?_) | (go_bits; go_simp; refine hK _ ?_)); clear hK K))
            with_reducible refine wpD_g (fun K hK => ?_)
            go_simp
            refine (ihH.out (twoC c d) G T A F2 n cg m ct q ca n2 c2 _ (by omega) (hSr.out.below hbAH.out) (ownsRow_below q2.out hbAH.out) hk2.out).mono ?_
            rintro e w6 ⟨v6, us6, L6, rfl, hR6, hK6, hl6, hb6⟩
            refine ⟨_, rfl, hb6, hK _ _ ?_⟩
            have hs6 := hb6.size
            have hR5c := hR5H.out.below hb6
            have hlen5 := hR5c.len
            have hlen6 := hR6.len
            obtain ⟨F5, c5, rfl⟩ := ownsRow_form hR5c.outer
            obtain ⟨F6, c6, rfl⟩ := ownsRow_form hR6.outer
            have hp6 := hK6.pos
            obtain ⟨g6, rfl⟩ := ownsRow_posB hR6.outer (by omega)
            have hcells := hR6.cells1
            have hnews : ∀ (j : Nat) (u : Value), us6[j]? = some u → w6.cell? ((⟨g6, 0, none⟩ : Addr).add j) = some u := fun j u hu => by
              have hjl := (List.getElem?_eq_some_iff.1 hu).1
              have := (hR6.outer.cellAt j (by omega)).trans hu
              rw [show (⟨g6, 0, none⟩ : Addr).add j = ⟨g6, j, none⟩ by unfold Addr.add; split <;> simp_all]
              exact this
            have hR5cH := Lib.hid hR5c
            have hR6H := Lib.hid hR6
            have hK6H := Lib.hid hK6
            have hnewsH := Lib.hid hnews
            have hcellsH := Lib.hid hcells
            obtain ⟨N5, hN5⟩ : ∃ N5, us5.length = N5 := ⟨_, rfl⟩
            obtain ⟨N6, hN6⟩ : ∃ N6, us6.length = N6 := ⟨_, rfl⟩
            have hout5 := Lib.hid (show w6.ownsRow w.heap.size 33 1 (.slice F5 N5 c5) N5 us5 by rw [← hN5]; exact hR5cH.out.outer)
            have hbB := Lib.hid (show Below wr.heap.size wr w6 from hbAH.out.trans (hb6.mono hs5))
            have hN5H := Lib.hid hN5
            have hN6H := Lib.hid hN6
            rw [hN5, hN6]
            have hm5 : N5 ≤ n1 := by omega
            have hm6 : N6 ≤ n2 := by omega
            clear hK K hR6 hK6 hb6 hR5c hnews hcells
            repeat (first | ((with_reducible refine wpD_p (fun K hK => ?_)); go_simp; refine hK _ ?_; clear hK K) | ((with_reducible refine wpD_q (fun K hK => ?_)); go_simp; (first | refine hK _ ?_ | (go_bits; refine hK _ ?_) | (go_bits; go_simp; refine hK _ ?_)); clear hK K))
            refine wpD_append_at rfl _ _ 63 rfl w.heap.size 33 i0 (.slice none 0 0) 1 24 Tryz.underlying63 hi hz0 hz1 hz2 rfl (by decide) (.slice F5 N5 c5) N5 us5 (by go_simp) hout5.out ⟨g6, 0, none⟩ N6 c6 us6 (by go_simp) (by rw [hN6H.out, Nat.mul_one]) hnewsH.out hcellsH.out (by unfold maxLen; omega) (by omega) (by omega) ?_
            intro v9 w9 hown9 hgrow9 hat9
            have happ := RowsB.app (hN5H.out ▸ hR5cH.out) hR6H.out hown9 (by rw [hN5H.out, hN6H.out]) hgrow9
            have hbC := Lib.hid ((hBr.out.trans (hbB.out.mono (by omega))).grown hgrow9 (by omega) (fun g e => (hout5.out.lt g e).1))
            have happH := Lib.hid happ
            clear hown9 hgrow9 hat9 happ
            repeat (first | ((with_reducible refine wpD_p (fun K hK => ?_)); go_simp; refine hK _ ?_; clear hK K) | ((with_reducible refine wpD_q (fun K hK => ?_)); go_simp; (first | refine hK _ ?_ | (go_bits; refine hK _ ?_) | (go_bits; go_simp; refine hK _ ?_)); clear hK K))
            with_reducible refine wpD_nil ?_
            go_wp2
            go_ret
            exact ⟨_, _, _, rfl, happH.out, .node c _ _ L5 L6 (fun i _ => parts_u c d i) (fun i _ => parts_d c d i) hnSt.out hK5H.out hK6H.out, by rw [List.length_append]; have := hN5H.out; have := hN6H.out; omega, hbC.out⟩
end Go.Proofs.YtmhgjgclclnmaaaGreat
/- slices.SortFunc at rows of numbers: the rows in another order. -/




namespace Go.Proofs.YtmhgjgclclnmaaaGreat
open Go.RowKit Go.Shelf Go.Lib Go.Sort
attribute [local go_sem] BelowBy.cell BelowBy.cell_drew stillUpon givesUpon

set_option maxRecDepth 100000
/-- the order of lists -/
def cmpL : List Int → List Int → Int
  | [], [] => 0
  | [], _ :: _ => -1
  | _ :: _, [] => 1
  | a :: s, b :: t => if cmpI a b = 0 then cmpL s t else cmpI a b
theorem cmpI_lt {a b : Int} : cmpI a b < 0 ↔ a < b := by unfold cmpI; split <;> (try split) <;> omega
theorem cmpI_zero {a b : Int} : cmpI a b = 0 ↔ a = b := by unfold cmpI; split <;> (try split) <;> omega
theorem cmpL_self : ∀ l, cmpL l l = 0
  | [] => rfl
  | a :: s => by simp only [cmpL]; rw [if_pos (cmpI_zero.2 rfl)]; exact cmpL_self s
theorem cmpL_trans : ∀ {x y z : List Int}, cmpL x y < 0 → cmpL y z < 0 → cmpL x z < 0
  | [], [], _, h, _ => by simp [cmpL] at h
  | [], _ :: _, [], _, h => by simp [cmpL] at h
  | [], _ :: _, _ :: _, _, _ => by simp [cmpL]
  | _ :: _, [], _, h, _ => by simp [cmpL] at h
  | _ :: _, _ :: _, [], _, h => by simp [cmpL] at h
  | a :: s, b :: t, c :: u, h1, h2 => by
    simp only [cmpL] at h1 h2 ⊢
    by_cases e1 : cmpI a b = 0
    · rw [if_pos e1] at h1
      obtain rfl := cmpI_zero.1 e1
      by_cases e2 : cmpI a c = 0
      · rw [if_pos e2] at h2 ⊢
        exact cmpL_trans h1 h2
      · rw [if_neg e2] at h2 ⊢
        exact h2
    · rw [if_neg e1] at h1
      have l1 := cmpI_lt.1 h1
      by_cases e2 : cmpI b c = 0
      · obtain rfl := cmpI_zero.1 e2
        rw [if_neg e1]
        exact h1
      · rw [if_neg e2] at h2
        have l2 := cmpI_lt.1 h2
        have l3 : cmpI a c < 0 := cmpI_lt.2 (by omega)
        rw [if_neg (by omega)]
        exact l3
theorem cmpL_ntrans : ∀ {x y z : List Int}, ¬ cmpL x y < 0 → ¬ cmpL y z < 0 → ¬ cmpL x z < 0
  | [], [], [], _, _ => by simp [cmpL]
  | [], [], _ :: _, _, h => by simp [cmpL] at h
  | [], _ :: _, _, h, _ => by simp [cmpL] at h
  | _ :: _, [], [], _, _ => by simp [cmpL]
  | _ :: _, [], _ :: _, _, h => by simp [cmpL] at h
  | _ :: _, _ :: _, [], _, _ => by simp [cmpL]
  | a :: s, b :: t, c :: u, h1, h2 => by
    simp only [cmpL] at h1 h2 ⊢
    by_cases e1 : cmpI a b = 0
    · rw [if_pos e1] at h1
      obtain rfl := cmpI_zero.1 e1
      by_cases e2 : cmpI a c = 0
      · rw [if_pos e2] at h2 ⊢
        exact cmpL_ntrans h1 h2
      · rw [if_neg e2] at h2 ⊢
        exact h2
    · rw [if_neg e1] at h1
      have l1 : ¬ a < b := fun h => h1 (cmpI_lt.2 h)
      have n1 : ¬ a = b := fun h => e1 (cmpI_zero.2 h)
      by_cases e2 : cmpI b c = 0
      · obtain rfl := cmpI_zero.1 e2
        rw [if_neg e1]
        exact h1
      · rw [if_neg e2] at h2
        have l2 : ¬ b < c := fun h => h2 (cmpI_lt.2 h)
        have l3 : ¬ cmpI a c < 0 := fun h => by have := cmpI_lt.1 h; omega
        rw [if_neg (fun h => by have := cmpI_zero.1 h; have n2 : ¬ b = c := fun h => e2 (cmpI_zero.2 h); omega)]
        exact l3
set_option maxHeartbeats 1000000 in
theorem CompareL_any (A B : Option Addr) (n m c d : Nat) (l1 l2 : List Int) (w : World) (h1 : RdSl 1 RInt w A n l1) (h2 : RdSl 1 RInt w B m l2) (hn : n ≤ 1073741824) (hm : m ≤ 1073741824) :
    Calls Tryz.prog 82 #[.slice A n c, .slice B m d] w fun e w' => e = .returned (.int .i64 (cmpL l1 l2)) ∧ w' = w := by
  have hl1 := h1.len
  have hl2 := h2.len
  obtain ⟨r, hr⟩ : ∃ r, cmpL l1 l2 = r := ⟨_, rfl⟩
  rw [hr]
  have hrH := Lib.hid hr
  clear hr
  go_enter Tryz.func82, Tryz.ntmps82
  go_wp2
  go_loopg [11] n (fun g i wr => ∃ k : Nat, k + g = n ∧ i = .int .i64 (k : Int) ∧ k ≤ m ∧ Hid (cmpL (l1.drop k) (l2.drop k) = r) ∧ wr = w)
  case atStart => exact ⟨0, by omega, rfl, by omega, Lib.hid (by simpa using hrH.out), rfl⟩
  case round =>
    obtain ⟨k, hk, rfl, hkm, hsame, hww⟩ := hrel
    subst hww
    by_cases hlt : k < n
    · have hd1 : l1.drop k = l1[k]'(by omega) :: l1.drop (k + 1) := List.drop_eq_getElem_cons (by omega)
      obtain ⟨bb, o, rfl, hb, hc⟩ := h1.ptr (by omega)
      obtain ⟨e, he⟩ := h1.get hlt
      have c1 := hc k e he
      unfold RInt at c1
      simp only [Nat.mul_one] at c1
      have hee : l1[k]'(by omega) = e := (List.getElem?_eq_some_iff.1 he).2
      rw [hee] at hd1
      by_cases hlt2 : k < m
      · have hd2 : l2.drop k = l2[k]'(by omega) :: l2.drop (k + 1) := List.drop_eq_getElem_cons (by omega)
        obtain ⟨b2, o2, rfl, hb2, hc2⟩ := h2.ptr (by omega)
        obtain ⟨e2, he2⟩ := h2.get hlt2
        have c2 := hc2 k e2 he2
        unfold RInt at c2
        simp only [Nat.mul_one] at c2
        have hee2 : l2[k]'(by omega) = e2 := (List.getElem?_eq_some_iff.1 he2).2
        rw [hee2] at hd2
        have hs := hsame.out
        rw [hd1, hd2] at hs
        simp only [cmpL] at hs
        have hge : ¬ (m : Int) ≤ (k : Int) := by omega
        obtain ⟨x, hx⟩ : ∃ x, cmpI e e2 = x := ⟨_, rfl⟩
        rw [hx] at hs
        have hxH := Lib.hid hx
        clear hc hc2 he he2 hd1 hd2 hee hee2 hsame hx
        by_cases hx0 : x = 0
        · rw [if_pos hx0] at hs
          subst hx0
          have hsH := Lib.hid hs
          clear hs
          go_wp2_with (go_at_call 133; refine (Compare_any e e2 _).mono ?_; rw [hxH.out]; rintro e' w' ⟨rfl, rfl⟩)
          go_roundg (n - (k + 1))
          case measure => omega
          case rel => exact ⟨k + 1, by omega, by go_num, by omega, hsH, rfl⟩
        · rw [if_neg hx0] at hs
          have hsH := Lib.hid hs
          have hxd : (x != 0) = true := by simpa using hx0
          clear hs
          go_wp2_with (go_at_call 133; refine (Compare_any e e2 _).mono ?_; rw [hxH.out]; rintro e' w' ⟨rfl, rfl⟩)
          go_ret
          exact ⟨ret_int hsH.out, rfl⟩
      · have hge : (m : Int) ≤ (k : Int) := by omega
        have hs := hsame.out
        rw [hd1, List.drop_eq_nil_of_le (by omega : l2.length ≤ k)] at hs
        simp only [cmpL] at hs
        have hsH := Lib.hid hs
        clear hc he hd1 hee hsame hs
        go_wp2
        go_ret
        exact ⟨ret_int hsH.out, rfl⟩
    · obtain rfl : k = n := by omega
      have hs := hsame.out
      rw [List.drop_eq_nil_of_le (by omega : l1.length ≤ k)] at hs
      by_cases hlt2 : k < m
      · have hd2 : l2.drop k = l2[k]'(by omega) :: l2.drop (k + 1) := List.drop_eq_getElem_cons (by omega)
        rw [hd2] at hs
        simp only [cmpL] at hs
        have hsH := Lib.hid hs
        have hI : (k : Int) < (m : Int) := by omega
        clear hs hd2 hsame
        go_wp2
        go_ret
        exact ⟨ret_int hsH.out, rfl⟩
      · rw [List.drop_eq_nil_of_le (by omega : l2.length ≤ k)] at hs
        simp only [cmpL] at hs
        have hsH := Lib.hid hs
        have hI : ¬ (k : Int) < (m : Int) := by omega
        clear hs hsame
        go_wp2
        go_ret
        exact ⟨ret_int hsH.out, rfl⟩
/-- the slices of a row by their places -/
def encS (us : List Value) (i : Nat) : Value := us.getD i (.slice none 0 0)
def cmpS (q : Nat) (L : List (Nat → Bool)) (i j : Nat) : Int := cmpL (if i < L.length then idxL (L.getD i fun _ => false) q else []) (if j < L.length then idxL (L.getD j fun _ => false) q else [])
theorem swo_cmpS (q : Nat) (L : List (Nat → Bool)) : SWO (ltOf (cmpS q L)) where
  irrefl x := by unfold ltOf cmpS; rw [cmpL_self]; rfl
  trans x y z h1 h2 := by
    unfold ltOf cmpS at *
    rw [decide_eq_true_eq] at *
    exact cmpL_trans h1 h2
  ntrans x y z h1 h2 := by
    unfold ltOf cmpS at *
    rw [decide_eq_false_iff_not] at *
    exact cmpL_ntrans h1 h2
theorem encS_at {us : List Value} {i : Nat} {u : Value} (h : us[i]? = some u) : encS us i = u := by unfold encS; rw [List.getD_eq_getElem?_getD, h]; rfl
section
variable {w : World} {base q : Nat} {v : Value} {us : List Value} {L : List (Nat → Bool)}
/-- what a place reads -/
theorem RowsB.read (h : RowsB w base v us q L) (i : Nat) : ∃ A n c, encS us i = .slice A n c ∧ RdSl 1 RInt w A n (if i < L.length then idxL (L.getD i fun _ => false) q else []) ∧ n ≤ q := by
  by_cases hi : i < us.length
  · have hiL : i < L.length := by rw [← h.len]; exact hi
    have hu := List.getElem?_eq_getElem hi
    have hd := List.getElem?_eq_getElem hiL
    obtain ⟨n, hn⟩ := h.inner i _ _ hu hd
    rw [encS_at hu, if_pos hiL, List.getD_eq_getElem?_getD, hd]
    obtain ⟨A, c, he⟩ := ownsRow_form hn
    rw [he] at hn ⊢
    have hl := hn.1
    simp only [List.length_map, Nat.mul_one] at hl
    exact ⟨A, n, c, rfl, rdI hn hl.symm, by rw [← hl]; exact idxL_len _ _⟩
  · refine ⟨none, 0, 0, ?_, ?_, by omega⟩
    · unfold encS
      rw [List.getD_eq_getElem?_getD, List.getElem?_eq_none (by omega)]
      rfl
    · rw [if_neg (by rw [← h.len]; exact hi)]
      exact ⟨rfl, fun h => by omega⟩
end
section
variable {α : Type} [Inhabited α] {enc : α → Value} {w : World} {g n : Nat} {os : Array Obj}
theorem heap_sorted1 {cur : Array Value} {e : TypeId} {fr : Nat × Nat} (d : Array α) (hb : w.heap[g]? = some (.cells cur e fr)) :
    (sortWorld enc w g 0 n d os).heap[g]? = some (.cells (putCells enc 0 d cur) e fr) := by
  have hg : g < w.heap.size := (Array.getElem?_eq_some_iff.1 hb).1
  unfold sortWorld
  rw [heap_grow_old _ _ (by simpa using hg)]
  simp [putRow, mapBlock, Sort.ahead, Array.getElem?_modify, hb, onCells]
theorem grownBy_sorted1 (d : Array α) : w.grownBy (sortWorld enc w g 0 n d os) (some g) := by
  refine ⟨rfl, rfl, rfl, by simp [sortWorld], fun k hk hne => ?_⟩
  unfold sortWorld
  rw [heap_grow_old _ _ (by simpa using hk)]
  have : g ≠ k := fun e => hne (by rw [e])
  simp [putRow, mapBlock, Sort.ahead, Array.getElem?_modify, this]
theorem take_put1 (cur : Array Value) (d : Array α) (h : d.size ≤ cur.size) : (putCells enc 0 d cur).toList.take d.size = d.toList.map enc := by
  apply List.ext_getElem?
  intro j
  by_cases hj : j < d.size
  · rw [List.getElem?_take_of_lt hj, Array.getElem?_toList]
    simp [putCells, hj, show j < cur.size by omega]
  · rw [List.getElem?_take_eq_none (by omega), List.getElem?_eq_none (by simp; omega)]
end
theorem inner_read {w : World} {q : Nat} {us : List Value} {L : List (Nat → Bool)} (hlen : us.length = L.length) (hin : ∀ (k : Nat) (u : Value) (d : Nat → Bool), us[k]? = some u → L[k]? = some d → ∃ n, w.ownsRow 0 2 1 u n ((idxL d q).map (Value.int .i64))) (i : Nat) :
    ∃ A n c, encS us i = .slice A n c ∧ RdSl 1 RInt w A n (if i < L.length then idxL (L.getD i fun _ => false) q else []) ∧ n ≤ q := by
  by_cases hi : i < us.length
  · have hiL : i < L.length := by rw [← hlen]; exact hi
    have hu := List.getElem?_eq_getElem hi
    have hd := List.getElem?_eq_getElem hiL
    obtain ⟨n, hn⟩ := hin i _ _ hu hd
    rw [encS_at hu, if_pos hiL, List.getD_eq_getElem?_getD, hd]
    obtain ⟨A, c, he⟩ := ownsRow_form hn
    rw [he] at hn ⊢
    have hl := hn.1
    simp only [List.length_map, Nat.mul_one] at hl
    exact ⟨A, n, c, rfl, rdI hn hl.symm, by rw [← hl]; exact idxL_len _ _⟩
  · refine ⟨none, 0, 0, ?_, ?_, by omega⟩
    · unfold encS
      rw [List.getD_eq_getElem?_getD, List.getElem?_eq_none (by omega)]
      rfl
    · rw [if_neg (by rw [← hlen]; exact hi)]
      exact ⟨rfl, fun h => by omega⟩
theorem oneCell_encS {w : World} {base q : Nat} {v : Value} {us : List Value} {L : List (Nat → Bool)} (h : RowsB w base v us q L) (i : Nat) : (encS us i).oneCell' = true := by
  obtain ⟨A, n, c, he, _⟩ := inner_read h.len h.inner i
  rw [he]
  rfl
set_option maxHeartbeats 2000000 in
theorem SortFuncSS_any {base g cap N q : Nat} {us : List Value} {L : List (Nat → Bool)} {w : World} (hN : us.length = N) (h : RowsB w base (.slice (some ⟨g, 0, none⟩) N cap) us q L) (hl : N ≤ 1000) (hq : q ≤ 1000) :
    Calls Tryz.prog 81 #[.slice (some ⟨g, 0, none⟩) N cap, .func (.func 82) #[] #[]] w fun e w' => e = .returned (.tuple #[]) ∧
      ∃ us' L', List.Perm L' L ∧ us'.length = N ∧ RowsB w' base (.slice (some ⟨g, 0, none⟩) N cap) us' q L' ∧ w.grownBy w' (some g) := by
  subst hN
  have ho := h.outer
  rcases ho with ⟨hcl, h0 | ⟨g', cap', cur, hv, hB, hb, h1, h2, h3, h4⟩⟩
  · cases h0.1
  cases hv
  rw [Nat.mul_one] at h4 h3
  have eg : ∀ args w, (callFunc 82 args).run Tryz.prog w = .ok (.enter 82 args) w := enters_of Tryz.func82 (by kernel_rfl) rfl
  have hH : Holds (encS us) w g 0 (List.range us.length).toArray := by
    intro j hj
    have hj' : j < us.length := by simpa using hj
    refine ⟨?_, by simp [World.frozen?, hb]⟩
    have e1 : (cur.toList.take us.length)[j]? = us[j]? := by rw [h4]
    rw [List.getElem?_take_of_lt hj'] at e1
    simp only [World.cell?, hb, Nat.zero_add]
    simp only [Option.isSome_none, Bool.false_eq_true, if_false]
    rw [← Array.getElem?_toList, e1]
    simp [hj', encS_at (List.getElem?_eq_getElem hj')]
  have hgl := (Array.getElem?_eq_some_iff.1 hb).1
  have hcon := Any.slices_SortFunc Tryz.sortSS (encS us) (oneCell_encS h) (cmpS q L) (swo_cmpS q L) 82 #[] g 0 cap (List.range us.length).toArray w eg
    (fun m os dk hs x y => by
      have hg := grownBy_sorted1 (enc := encS us) (w := w) (g := g) (n := m) (os := os) dk
      have hin : ∀ (k : Nat) (u : Value) (d : Nat → Bool), us[k]? = some u → L[k]? = some d → ∃ n, (sortWorld (encS us) w g 0 m dk os).ownsRow 0 2 1 u n ((idxL d q).map (Value.int .i64)) := fun k u d hu hd => by
        obtain ⟨n, hn⟩ := h.inner k u d hu hd
        exact ⟨n, inner_grown h.outer hg hn⟩
      obtain ⟨A, n, c, e1, r1, n1⟩ := inner_read h.len hin x
      obtain ⟨B, n2, c2, e2, r2, n3⟩ := inner_read h.len hin y
      rw [e1, e2]
      refine (CompareL_any A B n n2 c c2 _ _ _ r1 r2 (by omega) (by omega)).mono ?_
      rintro e w' ⟨rfl, rfl⟩
      exact ⟨rfl, 0, #[], by rw [World.drewN_zero, grow_empty]⟩) hH hgl (by simp; omega)
  rw [show (List.range us.length).toArray.size = us.length by simp] at hcon
  refine hcon.mono ?_
  rintro e w' ⟨he, d', n, os, ⟨hds, _, hp⟩, _, rfl⟩
  have hdz : d'.size = us.length := by simpa using hds
  have hp' : d'.toList.Perm (List.range us.length) := by
    have e1 : d'.extract 0 us.length = d' := by rw [← hdz]; exact Array.extract_size
    have e2 : (List.range us.length).toArray.extract 0 us.length = (List.range us.length).toArray := by
      simp
    rw [e1, e2] at hp
    exact hp
  have hus : (d'.toList.map (encS us)).length = us.length := by rw [List.length_map, Array.length_toList, hdz]
  have hmr : (List.range us.length).map (fun i => L.getD i fun _ => false) = L := by
    apply List.ext_getElem?
    intro j
    rw [List.getElem?_map]
    by_cases hj : j < us.length
    · rw [List.getElem?_range hj, Option.map_some, List.getD_eq_getElem?_getD, List.getElem?_eq_getElem (by rw [← h.len]; exact hj)]
      rfl
    · rw [List.getElem?_eq_none (by simpa using hj), List.getElem?_eq_none (by rw [← h.len]; omega)]
      rfl
  refine ⟨he, d'.toList.map (encS us), d'.toList.map (fun i => L.getD i fun _ => false), ?_, hus, ⟨?_, by simp, fun k u d hu hd => ?_⟩, grownBy_sorted1 _⟩
  · have := hp'.map (fun i => L.getD i fun _ => false)
    rw [hmr] at this
    exact this
  · rw [hus]
    refine ⟨by rw [hus, Nat.mul_one], .inr ⟨g, cap, _, rfl, hB, heap_sorted1 _ hb, h1, h2, by simp [putCells, h3], ?_⟩⟩
    rw [Nat.mul_one, ← hdz]
    exact take_put1 cur d' (by omega)
  · rw [List.getElem?_map] at hu hd
    cases hi : d'.toList[k]? with
    | none => rw [hi] at hu; cases hu
    | some i =>
      rw [hi] at hu hd
      simp only [Option.map_some, Option.some.injEq] at hu hd
      have hil : i < us.length := List.mem_range.1 (hp'.mem_iff.1 (List.mem_of_getElem? hi))
      have hiu := List.getElem?_eq_getElem hil
      have hiL := List.getElem?_eq_getElem (l := L) (i := i) (by rw [← h.len]; exact hil)
      rw [encS_at hiu] at hu
      rw [List.getD_eq_getElem?_getD, hiL, Option.getD_some] at hd
      subst hu hd
      obtain ⟨n', hn'⟩ := h.inner i _ _ hiu hiL
      exact ⟨n', inner_grown h.outer (grownBy_sorted1 _) hn'⟩
end Go.Proofs.YtmhgjgclclnmaaaGreat
/- Walks: the reference's groups by bonds. -/

namespace Go.Proofs.YtmhgjgclclnmaaaGreat
open Go.RowKit Go.Shelf
attribute [local go_sem] BelowBy.cell BelowBy.cell_drew stillUpon givesUpon BelowBy.cell_drew2 BelowBy.cell_drew3

theorem intsN_get {l : List Nat} {k x : Nat} (h : l[k]? = some x) : (intsN l)[k]? = some (.int .i64 (x : Int)) := by simp [intsN, h]
end Go.Proofs.YtmhgjgclclnmaaaGreat
/- Walks: the reference's bonds between groups. -/




namespace Go.Proofs.YtmhgjgclclnmaaaGreat
open Go.RowKit Go.Shelf
attribute [local go_sem] BelowBy.cell BelowBy.cell_drew stillUpon givesUpon BelowBy.cell_drew2 BelowBy.cell_drew3

def ShrRes (w : World) (k : Nat) (cs : List Bd) (e : Ending) (w' : World) : Prop := ∃ v, e = .returned (.tuple #[.int .i64 (k : Int), v]) ∧ w'.ownsRow w.heap.size 49 3 v cs.length (bdCells cs) ∧ Below w.heap.size w w'
end Go.Proofs.YtmhgjgclclnmaaaGreat
/- Walks: the program's bonds between groups. -/


namespace Go.Proofs.YtmhgjgclclnmaaaGreat
open Go.RowKit Go.Shelf
attribute [local go_sem] BelowBy.cell BelowBy.cell_drew stillUpon givesUpon BelowBy.cell_drew2 BelowBy.cell_drew3

theorem keep_strong (t : Int) (bs : List Bd) (k : Nat) : keepL t bs k = strongL t bs k := by
  unfold keepL strongL
  congr 1
  funext b
  unfold weakB
  by_cases h : b.s < t
  · have : ¬ t ≤ b.s := by omega
    simp [h, this]
  · have : t ≤ b.s := by omega
    simp [h, this]
set_option maxRecDepth 100000 in
set_option maxHeartbeats 4000000 in
theorem contracted_any (base n : Nat) (v : Value) (bs : List Bd) (t : Int) (w : World) (hrow : w.ownsRow base 49 3 v bs.length (bdCells bs)) (hb : BondsOk n bs) (hn : n ≤ 100000) (hm : bs.length ≤ 100000) :
    Calls Tryz.prog 129 #[.int .i64 (n : Int), v, .int .i64 t] w (ShrRes w (grpT n bs t).length (shrI n bs t)) := by
  obtain ⟨i0, hi, hz0, hz1, hz2⟩ := info_parts infoBond
  have hmk := fun W => run_makeN (P := Tryz.prog) 33 2 _ 1 8 Tryz.underlying33 infoI n (by omega) (by omega) W
  obtain ⟨B, c, rfl, hB⟩ := rd_of_row hrow
  have hBH := Lib.hid hB
  have hrH := Lib.hid hrow
  have hbH := Lib.hid hb
  obtain ⟨m, hmE⟩ : ∃ m, bs.length = m := ⟨_, rfl⟩
  have hml := Lib.hid hmE
  clear hB hb hrow
  rw [hmE] at hrH hBH hm ⊢
  clear hmE
  go_enter Tryz.func129, Tryz.ntmps129
  go_wp2_with fail
  refine (CloneB_any base _ bs _ (by rw [hml.out]; exact hrH.out.alloc _) (by rw [hml.out]; exact hm)).mono ?_
  rintro e w1 ⟨v1, rfl, hrow1, hb1⟩
  have hz1' : (w.alloc (Obj.cells #[.int .i64 t] 2)).heap.size = w.heap.size + 1 := by simp
  rw [hz1'] at hrow1
  have hs1 : w.heap.size + 1 ≤ w1.heap.size := by have := hb1.size; simp at this; omega
  have x0 : w1.cell? ⟨w.heap.size, 0, none⟩ = some (.int .i64 t) := (hb1.cell (p := ⟨w.heap.size, 0, none⟩) (by simp)).trans (by go_simp)
  have hB1 := Lib.hid (show Below w.heap.size w w1 by exact bel_)
  have hrow1H := Lib.hid hrow1
  clear hrow1 hb1 hz1'
  go_wp2_with fail
  refine (DeleteFuncB_any (w.heap.size + 1) w.heap.size t v1 bs _ hrow1H.out (by rw [hml.out]; exact hm) x0 (by omega) hs1).mono ?_
  rw [keep_strong]
  rintro e w2 ⟨A2, c2, rfl, hrd, hb2⟩
  have hrdH := Lib.hid hrd
  have hb2H := Lib.hid (hB1.out.trans (hb2.mono (by omega)))
  have hsl := strongL_len t bs bs.length
  rw [hml.out] at hsl
  have hin := Lib.hid (show ∀ (j : Nat) (e : Bd), (strongL t bs bs.length)[j]? = some e → e.a < n ∧ e.b < n from fun j e h => by obtain ⟨q, hq⟩ := strongL_mem h; exact ⟨hbH.out.a q e hq, hbH.out.b q e hq⟩)
  have hgr := Lib.hid (show grpT n bs t = groupsL (labOf (strongL t bs bs.length) (strongL t bs bs.length).length) n from rfl)
  have hs2 := hb2H.out.size
  clear hrd hb2 x0
  go_wp2_with fail
  refine (groupsBy_any n A2 _ c2 (strongL t bs bs.length) _ hrdH.out hn (by rw [hml.out]; omega) hin.out).mono ?_
  rw [← hgr.out]
  rintro e w3 ⟨vG, us, rfl, hown, hb3⟩
  have hownH := Lib.hid hown
  have hb3H := Lib.hid (hb2H.out.trans (hb3.mono hs2))
  have hs3 := hb3H.out.size
  obtain ⟨AG, cG, rfl⟩ := hown.form hown.len
  clear hown hb3
  have hK := grpT_len n bs t
  obtain ⟨gss, hgss⟩ : ∃ gss, grpT n bs t = gss := ⟨_, rfl⟩
  have hgssH := Lib.hid hgss
  obtain ⟨K, hKE⟩ : ∃ K, gss.length = K := ⟨_, rfl⟩
  have hKH := Lib.hid hKE
  rw [hgss] at hownH hK ⊢
  have husl := Lib.hid (show us.length = K by rw [hownH.out.len, List.length_map, hKE])
  rw [List.length_map, hKE] at hownH
  try rw [List.length_map]
  rw [hKE]
  rw [hKE] at hK
  clear hgss hKE
  go_wp2
  go_loopg [27] K (fun gk i wr => ∃ g : Nat, g + gk = K ∧ i = .int .i64 (g : Int) ∧ Hid (wr.rowIs w3.heap.size 2 n (fun x => .int .i64 (ofG gss g x : Int))) ∧ Hid (Below w3.heap.size w3 wr))
  case atStart => exact ⟨0, by omega, rfl, Lib.hid (by have := World.rowIs_made w3 (.int .i64 0) n 2; simpa [ofG] using this), Lib.hid (bl_al (bl_refl _) _)⟩
  case round =>
    clear hmk
    obtain ⟨g, hg, rfl, hnm, hbg⟩ := hrel
    have hszg := hbg.out.size
    have hownr := hownH.out.below hbg.out
    by_cases hgK : g < K
    · obtain ⟨gG, cG', hvG⟩ := hownr.formPos husl.out (by omega)
      injection hvG with hv1 hv2 hv3
      subst hv1; subst hv3
      obtain ⟨u, hu⟩ : ∃ u, us[g]? = some u := ⟨_, List.getElem?_eq_getElem (by rw [husl.out]; exact hgK)⟩
      obtain ⟨l, hl⟩ : ∃ l, gss[g]? = some l := ⟨_, List.getElem?_eq_getElem (by rw [hKH.out]; exact hgK)⟩
      obtain ⟨cu, fu, lu⟩ := hownH.out.cellAt husl.out hu
      obtain ⟨N0, r0, hr0, hin0⟩ := hownH.out.get hu
      rw [List.getElem?_map, hl] at hr0
      obtain rfl := Option.some.inj hr0
      have hN0 := hin0.1
      rw [intsN_len, Nat.mul_one] at hN0
      subst hN0
      obtain ⟨Au, cu', rfl⟩ := ownsRow_form hin0
      have hinH := Lib.hid hin0
      have hlH := Lib.hid hl
      have hll := grpT_len2 (by rw [hgssH.out]; exact hl)
      obtain ⟨M, hME⟩ : ∃ M, l.length = M := ⟨_, rfl⟩
      have hMH := Lib.hid hME
      rw [hME] at cu hinH hll
      have cg := (hbg.out.cell (p := ⟨gG, g, none⟩) lu).trans cu
      have lg : gG < wr.heap.size := by omega
      clear hin0 hl hu hME cu fu hownr
      go_wp2
      go_loopg [34] M (fun gk i wr => ∃ j : Nat, j + gk = M ∧ i = .int .i64 (j : Int) ∧ Hid (wr.rowIs w3.heap.size 2 n (fun x => .int .i64 (asg (ofG gss g) g l j x : Int))) ∧ Hid (Below w3.heap.size w3 wr))
      case atStart => exact ⟨0, by omega, rfl, Lib.hid (by rw [asg_zero]; exact hnm.out), hbg⟩
      case round =>
        clear hnm hbg hszg cg lg
        obtain ⟨j, hj, rfl, hnm, hbg⟩ := hrel
        have hszg := hbg.out.size
        by_cases hjM : j < M
        · obtain ⟨gu, cu2, hvu⟩ : ∃ gu cu2, Value.slice Au M cu' = .slice (some ⟨gu, 0, none⟩) M cu2 := by
            rcases hinH.out.2 with ⟨_, h0⟩ | ⟨g', cap, cur, hv, _⟩
            · omega
            · exact ⟨g', cap, hv⟩
          injection hvu with hu1 hu2 hu3
          subst hu1; subst hu3
          obtain ⟨x, hx⟩ : ∃ x, l[j]? = some x := ⟨_, List.getElem?_eq_getElem (by rw [hMH.out]; exact hjM)⟩
          have hxn := grpT_lt (by rw [hgssH.out]; exact hlH.out) hx
          have lgu := (hinH.out.lt gu rfl).2
          have cx := (hbg.out.cell (p := ⟨gu, j, none⟩) lgu).trans ((hinH.out.cellAt j (by omega)).trans (intsN_get hx))
          have lgu2 : gu < wr.heap.size := by omega
          have cn := hnm.out.cell (i := x) hxn
          have fn := hnm.out.frozen x
          have ln := hnm.out.lt
          have has := Lib.hid (asg_succ (f := ofG gss g) (g := g) hx)
          clear hx hu2
          go_wp2
          go_roundg (M - (j + 1))
          case measure => omega
          case rel =>
            refine ⟨j + 1, by omega, by go_num, Lib.hid ?_, Lib.hid (hbg.out.setCell (p := ⟨w3.heap.size, x, none⟩) (Nat.le_refl _) _)⟩
            have h3 := hnm.out.set x (.int .i64 (g : Int))
            rw [has.out]
            refine h3.congr ?_
            intro i hi
            by_cases hix : i = x
            · simp [hix]
            · simp [hix]
        · obtain rfl : j = M := by omega
          have hof := Lib.hid (ofG_succ hlH.out)
          go_wp2
          go_roundg (K - (g + 1))
          case measure => omega
          case rel =>
            exact ⟨g + 1, by omega, by go_num, Lib.hid (by rw [hof.out, hMH.out]; exact hnm.out), hbg⟩
    · obtain rfl : g = K := by omega
      obtain ⟨f, hf⟩ : ∃ f, ofG gss g = f := ⟨_, rfl⟩
      rw [hf] at hnm
      have hfn := Lib.hid (show nameT n bs t = f by unfold nameT; rw [hgssH.out, hKH.out, hf])
      clear hf hownr
      obtain ⟨wn, rfl⟩ : ∃ wn : World, wn = wr := ⟨_, rfl⟩
      have hbn := Lib.hid (hb3H.out.trans (hbg.out.mono hs3))
      have hsn := hbn.out.size
      have hfle := Lib.hid (nameT_le n bs t)
      go_wp2
      go_loopg [46, 14] m (fun gk i v wr => ∃ j : Nat, j + gk = m ∧ i = .int .i64 (j : Int) ∧ Hid (wr.ownsRow wn.heap.size 49 3 v (ctrI f bs j).length (bdCells (ctrI f bs j))) ∧ Hid (Below wn.heap.size wn wr))
      case atStart => exact ⟨0, by omega, rfl, Lib.hid (World.ownsRow_nil _ _ _ _), Lib.hid (bl_refl _)⟩
      case round =>
        obtain ⟨j, hj, rfl, hrw, hbr⟩ := hrel
        have hszr := hbr.out.size
        obtain ⟨A3, c3, rfl⟩ := ownsRow_form hrw.out
        by_cases hjk : j < m
        · have hBw := (hBH.out.below RBd.stable hbn.out).below RBd.stable hbr.out
          obtain ⟨bb, ob, rfl, hbb, hbc⟩ := hBw.ptr (by omega)
          obtain ⟨e, he⟩ := hBw.get hjk
          obtain ⟨e0, e1, e2⟩ := hbc j e he
          have hea := hbH.out.a j e he
          have heb := hbH.out.b j e he
          have hcl := ctrI_len f bs j
          obtain ⟨L, hL⟩ : ∃ L, (ctrI f bs j).length = L := ⟨_, rfl⟩
          rw [hL] at hrw hcl ⊢
          have hLH := Lib.hid hL
          have heH := Lib.hid he
          have ln := hnm.out.lt
          have ca := (hbr.out.cell (p := ⟨w3.heap.size, e.a, none⟩) ln).trans (hnm.out.cell (i := e.a) hea)
          have cb := (hbr.out.cell (p := ⟨w3.heap.size, e.b, none⟩) ln).trans (hnm.out.cell (i := e.b) heb)
          have lnr : w3.heap.size < wr.heap.size := by omega
          have hla := hfle.out e.a
          have hlb := hfle.out e.b
          rw [hfn.out] at hla hlb
          obtain ⟨la, hlaE⟩ : ∃ la, f e.a = la := ⟨_, rfl⟩
          obtain ⟨lb, hlbE⟩ : ∃ lb, f e.b = lb := ⟨_, rfl⟩
          rw [hlaE] at ca hla
          rw [hlbE] at cb hlb
          have hlaH := Lib.hid hlaE
          have hlbH := Lib.hid hlbE
          clear hbc he hBw hL hlaE hlbE
          by_cases hll : la = lb
          · subst hll
            have hno := Lib.hid (ctrI_no (f := f) heH.out (by rw [hlaH.out, hlbH.out]))
            go_wp2
            refine wp_region_ord [(0, .q), (1, .q), (2, .q), (3, .q), (4, .q), (5, .q), (6, .q), (7, .q), (8, .q), (9, .q), (10, .q)] (by kernel_rfl) (by kernel_rfl) ?_
            simp only [pick, List.filterMap_cons, List.filterMap_nil, List.getElem?_toArray, List.getElem?_cons_zero, List.getElem?_cons_succ, Option.map_some]
            repeat (first | ((with_reducible refine wpD_p (fun K hK => ?_)); go_simp; refine hK _ ?_; clear hK K) | ((with_reducible refine wpD_q (fun K hK => ?_)); go_simp; (first | refine hK _ ?_ | (go_bits; refine hK _ ?_) | (go_bits; go_simp; refine hK _ ?_)); clear hK K))
            with_reducible refine wpD_nil ?_
            go_wp2
            go_roundg (m - (j + 1))
            case measure => omega
            case rel => exact ⟨j + 1, by omega, by go_num, Lib.hid (by rw [hno.out, hLH.out]; exact ownsRow_below hrw.out (by exact bel_)), Lib.hid (hbr.out.trans (Below.mono (by exact bel_) hszr))⟩
          · have hyes := Lib.hid (ctrI_yes (f := f) heH.out (by rw [hlaH.out, hlbH.out]; exact hll))
            have hlld : ((la : Int) == (lb : Int)) = false := by simp; omega
            go_wp2
            refine wp_region_ord [(0, .q), (1, .q), (2, .q), (3, .q), (4, .q), (5, .q), (6, .q), (7, .q), (8, .q), (9, .q), (10, .q)] (by kernel_rfl) (by kernel_rfl) ?_
            simp only [pick, List.filterMap_cons, List.filterMap_nil, List.getElem?_toArray, List.getElem?_cons_zero, List.getElem?_cons_succ, Option.map_some]
            repeat (first | ((with_reducible refine wpD_p (fun K hK => ?_)); go_simp; refine hK _ ?_; clear hK K) | ((with_reducible refine wpD_q (fun K hK => ?_)); go_simp; (first | refine hK _ ?_ | (go_bits; refine hK _ ?_) | (go_bits; go_simp; refine hK _ ?_)); clear hK K))
            with_reducible refine wpD_nil ?_
            go_wp2
            refine wp_region_ord [(0, .q), (1, .q), (2, .q), (3, .q), (4, .q), (5, .q), (6, .q), (7, .q), (8, .q), (9, .q), (10, .q), (11, .q), (12, .q), (13, .q), (14, .g), (15, .b), (16, .q)] (by kernel_rfl) (by kernel_rfl) ?_
            simp only [pick, List.filterMap_cons, List.filterMap_nil, List.getElem?_toArray, List.getElem?_cons_zero, List.getElem?_cons_succ, Option.map_some]
            repeat (first | ((with_reducible refine wpD_p (fun K hK => ?_)); go_simp; refine hK _ ?_; clear hK K) | ((with_reducible refine wpD_q (fun K hK => ?_)); go_simp; (first | refine hK _ ?_ | (go_bits; refine hK _ ?_) | (go_bits; go_simp; refine hK _ ?_)); clear hK K))
            with_reducible refine wpD_g (fun K hK => ?_)
            go_simp
            refine ⟨Grew.of_alloc _, hK _ _ ?_⟩
            clear hK K
            have hb9 : Below wr.heap.size wr (((wr.alloc (Obj.cells #[.int .i64 (e.a : Int), .int .i64 (e.b : Int), .int .i64 e.s] 49)).drew.alloc (Obj.cells #[.int .i64 (la : Int), .int .i64 (lb : Int), .int .i64 e.s] 49)).drew) := by exact bel_
            have hb9H := Lib.hid hb9
            clear hb9
            refine wpD_append rfl _ _ 44 rfl wn.heap.size 49 i0 (.agg #[.int .i64 0, .int .i64 0, .int .i64 0]) 3 24 Tryz.underlying44 hi hz0 hz1 hz2 rfl (by decide) (.slice A3 L c3) L (bdCells (ctrI f bs j)) (by go_simp) (ownsRow_below hrw.out hb9H.out) ⟨wr.heap.size + 1, 0, none⟩ 1 1 [.int .i64 (la : Int), .int .i64 (lb : Int), .int .i64 e.s] (by go_simp) rfl ?hnews (fun x hx => by simp at hx; rcases hx with rfl | rfl | rfl <;> rfl) (by unfold maxLen; omega) (by omega) (by simp; omega) ?_
            case hnews =>
              have := cell_three_new (wr.alloc (Obj.cells #[.int .i64 (e.a : Int), .int .i64 (e.b : Int), .int .i64 e.s] 49)) (.int .i64 (la : Int)) (.int .i64 (lb : Int)) (.int .i64 e.s) 49
              simpa using this
            intro v5 w5 hown5 hgrow5
            obtain ⟨A5, c5, rfl⟩ := ownsRow_form hown5
            have hown5H := Lib.hid hown5
            have hbw5 : Below wn.heap.size wn w5 := (hbr.out.trans (hb9H.out.mono hszr)).grown hgrow5 (by simp; omega) (fun b e => (hrw.out.lt b e).1)
            have hbw5H := Lib.hid hbw5
            clear hown5 hgrow5 hbw5
            repeat (first | ((with_reducible refine wpD_p (fun K hK => ?_)); go_simp; refine hK _ ?_; clear hK K) | ((with_reducible refine wpD_q (fun K hK => ?_)); go_simp; (first | refine hK _ ?_ | (go_bits; refine hK _ ?_) | (go_bits; go_simp; refine hK _ ?_)); clear hK K))
            with_reducible refine wpD_nil ?_
            go_wp2
            go_roundg (m - (j + 1))
            case measure => omega
            case rel =>
              refine ⟨j + 1, by omega, by go_num, Lib.hid ?_, hbw5H⟩
              rw [hyes.out, bdCells_snoc, List.length_append, hLH.out, hlaH.out, hlbH.out]
              exact hown5H.out
        · obtain rfl : j = m := by omega
          go_wp2
          go_ret2
          refine ⟨.slice A3 (ctrI f bs j).length c3, by rw [hgssH.out, hKH.out]; rfl, ?_, hbn.out.trans (hbr.out.mono hsn)⟩
          unfold shrI
          rw [hml.out, hfn.out]
          exact ownsRow_base hrw.out hsn
end Go.Proofs.YtmhgjgclclnmaaaGreat
/- Walk: the reference's IsStable. -/

namespace Go.Proofs.YtmhgjgclclnmaaaGreat
open Go.RowKit Go.Shelf
attribute [local go_sem] BelowBy.cell BelowBy.cell_drew stillUpon givesUpon BelowBy.cell_drew2 BelowBy.cell_drew3

/-- a Boolean and a code -/
def BCodeRes (w : World) (r : Bool × Int) (e : Ending) (w' : World) : Prop := e = .returned (.tuple #[.bool r.1, .int .i64 r.2]) ∧ Below w.heap.size w w'
theorem BCodeRes.of {w w' : World} {r : Bool × Int} {b : Bool} {c : Int} (h : (b, c) = r) (hb : Below w.heap.size w w') : BCodeRes w r (.returned (.tuple #[.bool b, .int .i64 c])) w' := by
  subst h; exact ⟨rfl, hb⟩
def tempB (t : Int) : Bool := inB t 1 16
theorem tempB_true {t : Int} (h : tempB t = true) : ∃ k : Nat, t = k ∧ 1 ≤ k ∧ k ≤ 16 := by
  have : 1 ≤ t ∧ t ≤ 16 := by simpa [tempB, inB] using h
  exact ⟨t.toNat, by omega, by omega, by omega⟩
noncomputable def stabVR (gs : List Gl) (ts : List Ti) (xs : List Pl) (t : Int) : Bool × Int := stabR xs.length (bondsL gs ts xs) t.toNat
theorem stabR_full {n t : Nat} {bs : List Bd} (h : 64 < (grpT n bs t).length) : ((false, 4) : Bool × Int) = stabR n bs t := by unfold stabR; rw [if_pos h]
theorem stabR_is {n t : Nat} {bs : List Bd} (h : ¬ 64 < (grpT n bs t).length) : ((holdsB (grpT n bs t).length (shrI n bs t) t, 0) : Bool × Int) = stabR n bs t := by unfold stabR; rw [if_neg h]
noncomputable def isStabR (gs : List Gl) (ts : List Ti) (xs : List Pl) (t : Int) : Bool × Int := if validAsmB gs ts xs = false then (false, 1) else if tempB t = false then (false, 2) else stabVR gs ts xs t
theorem isStabR_no {gs : List Gl} {ts : List Ti} {xs : List Pl} {t : Int} (h : validAsmB gs ts xs = false) : ((false, 1) : Bool × Int) = isStabR gs ts xs t := by unfold isStabR; rw [if_pos h]
theorem isStabR_range {gs : List Gl} {ts : List Ti} {xs : List Pl} {t : Int} (h : validAsmB gs ts xs = true) (h2 : tempB t = false) : ((false, 2) : Bool × Int) = isStabR gs ts xs t := by unfold isStabR; rw [if_neg (by rw [h]; decide), if_pos h2]
theorem isStabR_yes {gs : List Gl} {ts : List Ti} {xs : List Pl} {t : Nat} (h : validAsmB gs ts xs = true) (h2 : tempB t = true) : stabR xs.length (bondsL gs ts xs) t = isStabR gs ts xs t := by unfold isStabR; rw [if_neg (by rw [h]; decide), if_neg (by rw [h2]; decide)]; rfl
end Go.Proofs.YtmhgjgclclnmaaaGreat
/- Walk: the program's IsStable. -/



namespace Go.Proofs.YtmhgjgclclnmaaaGreat
open Go.RowKit Go.Shelf
attribute [local go_sem] BelowBy.cell BelowBy.cell_drew stillUpon givesUpon BelowBy.cell_drew2 BelowBy.cell_drew3

theorem send0_any (base p n y M : Nat) (bs : List Bd) (vR vF : Value) (uR uF : List Value) (w : World) (h : Net w base p n (roomM bs bs.length) zeroM vR vF uR uF) (hb : BondsOk n bs) (hy : y < n) (hy0 : 0 < y) (hn : n ≤ 100000) (hm : bs.length ≤ 1000000) (hM : M ≤ 1099511627776) (hbase : base ≤ w.heap.size) :
    Calls Tryz.prog 95 #[.pointer (some ⟨p, 0, none⟩), .int .i64 0, .int .i64 (y : Int), .int .i64 (M : Int)] w (SendRes w base p n bs 0 y M vR vF uR uF) := send_any base p n 0 y M bs vR vF uR uF w h hb (by omega) hy (by omega) hn hm hM hbase
theorem isTemperature_any (t : Int) (w : World) : Calls Tryz.prog 78 #[.int .i64 t] w fun e w' => e = .returned (.bool (tempB t)) ∧ w = w' := by
  go_enter Tryz.func78, Tryz.ntmps78
  go_wp2_with (go_at_call 51; refine (within_any _ _ _ _).mono ?_; rintro e w' ⟨rfl, rfl⟩)
  go_ret
  exact ⟨ret_bool rfl, rfl⟩
set_option maxRecDepth 100000 in
set_option maxHeartbeats 2000000 in
theorem holds_any (n t : Nat) (B : Option Addr) (m c : Nat) (bs : List Bd) (w : World) (hB : RdSl 3 RBd w B m bs) (hb : 1 < n → BondsOk n bs) (hn : n ≤ 100000) (hm : m ≤ 100000) (ht : t ≤ 1000) :
    Calls Tryz.prog 130 #[.int .i64 (n : Int), .slice B m c, .int .i64 (t : Int)] w fun e w' => e = .returned (.bool (holdsB n bs t)) ∧ Below w.heap.size w w' := by
  have hBH := Lib.hid hB
  have hbH := Lib.hid hb
  have hml := Lib.hid hB.len
  clear hB hb
  obtain ⟨r, hrE⟩ : ∃ r, holdsB n bs t = r := ⟨_, rfl⟩
  rw [hrE]
  have hrH := Lib.hid hrE
  clear hrE
  go_enter Tryz.func130, Tryz.ntmps130
  go_wp2
  go_loopg [7] n (fun gk yv wr => ∃ y : Nat, (y + gk = n + 1) ∧ 1 ≤ y ∧ yv = .int .i64 (y : Int) ∧ Hid (∀ j, j < y - 1 → t ≤ flowV n bs 0 (j + 1)) ∧ Hid (Below w.heap.size w wr))
  case atStart => exact ⟨1, by omega, by omega, rfl, Lib.hid (fun j hj => by omega), Lib.hid (bl_refl _)⟩
  case round =>
    obtain ⟨y, hy, hy1, rfl, hall, hbw⟩ := hrel
    have hsz := hbw.out.size
    by_cases hyn : y < n
    · have hb1 := hbH.out (by omega)
      have hbo := Lib.hid hb1
      have hB1 := Lib.hid (hBH.out.below RBd.stable hbw.out)
      clear hb1
      obtain ⟨fv, hfv⟩ : ∃ fv, flowV n bs 0 y = fv := ⟨_, rfl⟩
      have hfvH := Lib.hid hfv
      clear hfv
      obtain ⟨s, hs⟩ : ∃ s, min fv t = s := ⟨_, rfl⟩
      have hsH := Lib.hid hs
      clear hs
      by_cases hlt : s < t
      · have hr := Lib.hid (show false = r by
          rw [← hrH.out]
          unfold holdsB
          refine (decide_eq_false (fun h => ?_)).symm
          have h1 := h (y - 1) (by omega)
          rw [show y - 1 + 1 = y by omega, hfvH.out] at h1
          have := hsH.out
          omega)
        have hlti : (s : Int) < (t : Int) := by omega
        go_wp2_with (first
          | (go_at_call 94; refine (networkOf_any n B m c bs _ hB1.out hbo.out hn (by omega)).mono ?_; rintro e w1 ⟨p, vR, vF, uR, uF, rfl, hnet, hbx⟩; have hnetH := Lib.hid hnet; have hb1H := Lib.hid hbx; have hs1 := hbx.size; clear hnet hbx)
          | (go_at_call 95; refine (send0_any wr.heap.size p n y t bs vR vF uR uF _ (by rw [hml.out]; exact hnetH.out) hbo.out hyn (by omega) hn (by rw [hml.out]; omega) (by omega) hs1).mono ?_; rintro e w2 ⟨rfl, _, hbx⟩; rw [hfvH.out, hsH.out]; have hb2H := Lib.hid hbx; clear hbx))
        go_ret
        exact ⟨ret_bool hr.out, hbw.out.trans ((hb1H.out.trans hb2H.out).mono hsz)⟩
      · have hlti : ¬ (s : Int) < (t : Int) := by omega
        have hge : t ≤ fv := by have := hsH.out; omega
        have hgeH := Lib.hid hge
        clear hge
        go_wp2_with (first
          | (go_at_call 94; refine (networkOf_any n B m c bs _ hB1.out hbo.out hn (by omega)).mono ?_; rintro e w1 ⟨p, vR, vF, uR, uF, rfl, hnet, hbx⟩; have hnetH := Lib.hid hnet; have hb1H := Lib.hid hbx; have hs1 := hbx.size; clear hnet hbx)
          | (go_at_call 95; refine (send0_any wr.heap.size p n y t bs vR vF uR uF _ (by rw [hml.out]; exact hnetH.out) hbo.out hyn (by omega) hn (by rw [hml.out]; omega) (by omega) hs1).mono ?_; rintro e w2 ⟨rfl, _, hbx⟩; rw [hfvH.out, hsH.out]; have hb2H := Lib.hid hbx; clear hbx))
        go_roundg (n + 1 - (y + 1))
        case measure => omega
        case rel =>
          refine ⟨y + 1, by omega, by omega, by go_num, Lib.hid (fun j hj => ?_), Lib.hid (hbw.out.trans ((hb1H.out.trans hb2H.out).mono hsz))⟩
          by_cases hjy : j < y - 1
          · exact hall.out j hjy
          · obtain rfl : j = y - 1 := by omega
            rw [show y - 1 + 1 = y by omega, hfvH.out]
            exact hgeH.out
    · have hr := Lib.hid (show true = r by
        rw [← hrH.out]
        unfold holdsB
        exact (decide_eq_true fun j hj => hall.out j (by omega)).symm)
      have hyi : ¬ (y : Int) < (n : Int) := by omega
      go_wp2
      go_ret
      exact ⟨ret_bool hr.out, hbw.out⟩
/-- stable, and whether there was room -/
def StabRes (w : World) (r : Bool × Int) (e : Ending) (w' : World) : Prop := ∃ b ok, e = .returned (.tuple #[.bool b, .bool ok]) ∧ ((ok = true ∧ r = (b, 0)) ∨ (ok = false ∧ r = (false, 4))) ∧ Below w.heap.size w w'
set_option maxRecDepth 100000 in
set_option maxHeartbeats 2000000 in
theorem stable_any (G T A : Option Addr) (n cg m ct q ca : Nat) (gs : List Gl) (ts : List Ti) (xs : List Pl) (t : Nat) (w : World) (h : SA w G n T m A q gs ts xs) (hV : Valid gs ts xs) (ht : t ≤ 1000) :
    Calls Tryz.prog 79 #[.agg #[.slice G n cg, .slice T m ct], .agg #[.slice A q ca], .int .i64 (t : Int)] w (StabRes w (stabR xs.length (bondsL gs ts xs) t)) := by
  have hSA := Lib.hid h
  have hlen := h.A.len
  have hbo := bondsOk hV
  have hbl := bondsL_len hV
  have hVl := hV.len
  rw [hlen] at hbo hVl ⊢
  have hboH := Lib.hid hbo
  clear h hbo
  generalize hbs : bondsL gs ts xs = bs at *
  have hbsH := Lib.hid hbs
  clear hbs
  have hok := Lib.hid (fun (h : 0 < (grpT q bs t).length) => ctrI_ok hboH.out (nameT_lt h) bs.length)
  have hsl := ctrI_len (nameT q bs t) bs bs.length
  have hgl := grpT_len q bs t
  go_enter Tryz.func79, Tryz.ntmps79
  go_wp2
  refine wp_region_ord [(0, .q), (1, .q), (2, .q), (3, .q), (4, .q), (6, .q), (5, .g), (7, .g), (8, .q), (9, .q), (10, .q), (11, .q), (12, .q)] (by kernel_rfl) (by kernel_rfl) ?_
  simp only [pick, List.filterMap_cons, List.filterMap_nil, List.getElem?_toArray, List.getElem?_cons_zero, List.getElem?_cons_succ, Option.map_some]
  repeat (first | ((with_reducible refine wpD_p (fun K hK => ?_)); go_simp; refine hK _ ?_; clear hK K) | ((with_reducible refine wpD_q (fun K hK => ?_)); go_simp; (first | refine hK _ ?_ | (go_bits; refine hK _ ?_) | (go_bits; go_simp; refine hK _ ?_)); clear hK K))
  with_reducible refine wpD_g (fun K hK => ?_)
  go_simp
  refine ((hSA.out.below (by exact bel_)).bonds hV).mono ?_
  rw [hbsH.out]
  rintro e w2 ⟨v, rfl, hrow, hb2⟩
  refine ⟨_, rfl, hb2, hK _ _ ?_⟩
  have hrowH := Lib.hid hrow
  clear hK K hrow
  repeat (first | ((with_reducible refine wpD_p (fun K hK => ?_)); go_simp; refine hK _ ?_; clear hK K) | ((with_reducible refine wpD_q (fun K hK => ?_)); go_simp; (first | refine hK _ ?_ | (go_bits; refine hK _ ?_) | (go_bits; go_simp; refine hK _ ?_)); clear hK K))
  with_reducible refine wpD_g (fun K hK => ?_)
  go_simp
  refine (contracted_any _ q v bs t _ hrowH.out hboH.out (by omega) (by omega)).mono ?_
  rintro e w3 ⟨v3, rfl, hrow3, hb3⟩
  obtain ⟨B3, c3, rfl, hB3⟩ := rd_of_row hrow3
  refine ⟨_, rfl, hb3, hK _ _ ?_⟩
  have hB3H := Lib.hid hB3
  clear hK K hrow3 hB3
  repeat (first | ((with_reducible refine wpD_p (fun K hK => ?_)); go_simp; refine hK _ ?_; clear hK K) | ((with_reducible refine wpD_q (fun K hK => ?_)); go_simp; (first | refine hK _ ?_ | (go_bits; refine hK _ ?_) | (go_bits; go_simp; refine hK _ ?_)); clear hK K))
  with_reducible refine wpD_nil ?_
  obtain ⟨K, hK⟩ : ∃ K, (grpT q bs t).length = K := ⟨_, rfl⟩
  have hfull := Lib.hid (stabR_full (n := q) (t := t) (bs := bs))
  have his := Lib.hid (stabR_is (n := q) (t := t) (bs := bs))
  have hbb : Below w.heap.size w w3 := by exact bel_
  have hbbH := Lib.hid hbb
  have hs3 := hbb.size
  rw [hK] at hfull his hok hgl ⊢
  clear hK hbb hb2 hb3
  by_cases h64 : 64 < K
  · have h64H := Lib.hid h64
    have hi64 : (64 : Int) < (K : Int) := by omega
    go_wp2
    go_ret2
    exact ⟨false, false, rfl, .inr ⟨rfl, (hfull.out h64H.out).symm⟩, hbbH.out⟩
  · have h64H := Lib.hid h64
    have hi64 : ¬ (64 : Int) < (K : Int) := by omega
    have hsl2 : (shrI q bs t).length ≤ bs.length := hsl
    have hisH := Lib.hid (his.out h64H.out)
    obtain ⟨b, hbE⟩ : ∃ b, holdsB K (shrI q bs t) t = b := ⟨_, rfl⟩
    have hbEH := Lib.hid hbE
    clear hbE
    go_wp2_with (go_at_call 130; refine (holds_any K t B3 _ c3 (shrI q bs t) _ hB3H.out (fun h => hok.out (by omega)) (by omega) (by omega) ht).mono ?_; rw [hbEH.out]; rintro e w4 ⟨rfl, hb4⟩; have hb4H := Lib.hid hb4; clear hb4)
    go_ret2
    exact ⟨b, true, rfl, .inl ⟨rfl, by rw [← hisH.out, hbEH.out]⟩, hbbH.out.trans (hb4H.out.mono hs3)⟩
set_option maxRecDepth 100000 in
set_option maxHeartbeats 2000000 in
theorem IsStable_any (G T A : Option Addr) (n cg m ct q ca : Nat) (gs : List Gl) (ts : List Ti) (xs : List Pl) (t : Int) (w : World) (h : SA w G n T m A q gs ts xs) :
    Calls Tryz.prog 36 #[.agg #[.slice G n cg, .slice T m ct], .agg #[.slice A q ca], .int .i64 t] w (BCodeRes w (isStabR gs ts xs t)) := by
  have hSA := Lib.hid h
  clear h
  cases hval : validAsmB gs ts xs
  · have hvH := Lib.hid hval
    clear hval
    go_enter Tryz.func36, Tryz.ntmps36
    go_wp2_with fail
    refine ((hSA.out.below (by exact bel_)).valid hvH.out).mono ?_
    rintro e w1 ⟨rfl, hb1⟩
    go_wp2
    go_ret2
    exact BCodeRes.of (isStabR_no hvH.out) (by exact bel_)
  · have hvH := Lib.hid hval
    have hV := valid_of hval
    clear hval
    cases htmp : tempB t
    · have htH := Lib.hid htmp
      clear htmp
      go_enter Tryz.func36, Tryz.ntmps36
      go_wp2_with fail
      refine ((hSA.out.below (by exact bel_)).valid hvH.out).mono ?_
      rintro e w1 ⟨rfl, hb1⟩
      go_wp2_with (go_at_call 78; refine (isTemperature_any t _).mono ?_; rw [htH.out]; rintro e _ ⟨rfl, rfl⟩)
      go_ret2
      exact BCodeRes.of (isStabR_range hvH.out htH.out) (by exact bel_)
    · have htH := Lib.hid htmp
      obtain ⟨tn, rfl, ht1, ht2⟩ := tempB_true htmp
      clear htmp
      have hr := Lib.hid (isStabR_yes hvH.out htH.out)
      go_enter Tryz.func36, Tryz.ntmps36
      go_wp2_with fail
      refine ((hSA.out.below (by exact bel_)).valid hvH.out).mono ?_
      rintro e w1 ⟨rfl, hb1⟩
      have ca1 := (hb1.cell (p := ⟨w.heap.size + 1, 0, none⟩) (by simp)).trans (show _ = some (Value.slice A q ca) by go_simp)
      have cg1 := (hb1.cell (p := ⟨w.heap.size, 0, none⟩) (by simp; omega)).trans (show _ = some (Value.slice G n cg) by go_simp)
      have ct1 := (hb1.cell (p := ⟨w.heap.size, 1, none⟩) (by simp; omega)).trans (show _ = some (Value.slice T m ct) by go_simp)
      have la1 : w.heap.size + 1 < w1.heap.size := by have := hb1.size; simp at this; omega
      have lg1 : w.heap.size < w1.heap.size := by omega
      have hb1H : Below w.heap.size w w1 := by exact bel_
      have hSA1 := Lib.hid (hSA.out.below hb1H)
      go_wp2_with (first
        | (go_at_call 78; refine (isTemperature_any tn _).mono ?_; rw [htH.out]; rintro e _ ⟨rfl, rfl⟩)
        | (go_at_call 79; refine (stable_any G T A n cg m ct q ca gs ts xs tn _ hSA1.out hV (by omega)).mono ?_; rw [hr.out]; rintro e w2 ⟨b, ok, rfl, (⟨rfl, hre⟩ | ⟨rfl, hre⟩), hb2⟩))
      · go_ret2
        exact BCodeRes.of hre.symm (by exact bel_)
      · go_ret2
        exact BCodeRes.of hre.symm (by exact bel_)
end Go.Proofs.YtmhgjgclclnmaaaGreat
/- Walk: the program's BreakApart. -/


namespace Go.Proofs.YtmhgjgclclnmaaaGreat
open Go.RowKit Go.Shelf
attribute [local go_sem] BelowBy.cell BelowBy.cell_drew stillUpon givesUpon BelowBy.cell_drew2 BelowBy.cell_drew3

/-- what BreakApart answers for a valid assembly -/
def BrokenRes (gs : List Gl) (ts : List Ti) (xs : List Pl) (t : Nat) (w : World) (e : Ending) (w' : World) : Prop :=
  ∃ (g N cap : Nat) (us : List Value) (L L0 : List (Nat → Bool)), e = .returned (.tuple #[.slice (some ⟨g, 0, none⟩) N cap, .int .i64 0]) ∧ us.length = N ∧ RowsB w' w.heap.size (.slice (some ⟨g, 0, none⟩) N cap) us xs.length L ∧ List.Perm L L0 ∧ Brk gs ts xs t allC L0 ∧ N ≤ 64 ∧ Below w.heap.size w w'
set_option maxRecDepth 100000 in
set_option maxHeartbeats 8000000 in
theorem BreakApart_any {G T A : Option Addr} {n cg m ct q ca t : Nat} {gs : List Gl} {ts : List Ti} {xs : List Pl} {w : World} (h : SA w G n T m A q gs ts xs) (hv : validAsmB gs ts xs = true) (h64 : q ≤ 64) (hq1 : 1 ≤ q) (ht1 : 1 ≤ t) (ht : t ≤ 16) :
    Calls Tryz.prog 37 #[.agg #[.slice G n cg, .slice T m ct], .agg #[.slice A q ca], .int .i64 (t : Int)] w (BrokenRes gs ts xs t w) := by
  obtain ⟨iI, hI, hI0, hI1, hI2⟩ := info_parts infoI
  
  have hSA := Lib.hid h
  have hvH := Lib.hid hv
  have hql := h.A.len
  have htb := Lib.hid (show tempB (t : Int) = true from inB_true.2 (by omega))
  have hn1 : ¬ (64 : Int) < (q : Int) := by omega
  have hn2 : ((q : Int) == 0) = false := by simp; omega
  have hn3 : ¬ (q : Int) = 0 := by omega
  clear h hv
  go_enter Tryz.func37, Tryz.ntmps37
  go_wp2_with fail
  refine ((hSA.out.below (by exact bel_)).valid hvH.out).mono ?_
  rintro e w1 ⟨rfl, hb1⟩
  have hB1 := Lib.hid (show Below w.heap.size w w1 by exact bel_)
  have ca1 := (hb1.cell (p := ⟨w.heap.size + 1, 0, none⟩) (by simp)).trans (show _ = some (Value.slice A q ca) by go_simp)
  have cg1 := (hb1.cell (p := ⟨w.heap.size, 0, none⟩) (by simp; omega)).trans (show _ = some (Value.slice G n cg) by go_simp)
  have ct1 := (hb1.cell (p := ⟨w.heap.size, 1, none⟩) (by simp; omega)).trans (show _ = some (Value.slice T m ct) by go_simp)
  have la1 : w.heap.size + 1 < w1.heap.size := by have := hb1.size; simp at this; omega
  have lg1 : w.heap.size < w1.heap.size := by omega
  clear hb1
  go_wp2_with (go_at_call 78; refine (isTemperature_any t _).mono ?_; rw [htb.out]; rintro e _ ⟨rfl, rfl⟩)
  go_loopg [33, 8] q (fun gk i v wr => ∃ (j : Nat) (F : Option Addr) (cf : Nat), j + gk = q ∧ i = .int .i64 (j : Int) ∧ v = .slice F j cf ∧ Hid (wr.ownsRow w1.heap.size 2 1 (.slice F j cf) j ((idxL allC j).map (Value.int .i64))) ∧ Hid (Below w1.heap.size w1 wr))
  case atStart => exact ⟨0, none, 0, by omega, rfl, rfl, Lib.hid (World.ownsRow_nil _ _ _ _), Lib.hid (bl_refl _)⟩
  case round =>
    obtain ⟨j, F, cf, hj, rfl, rfl, hrow, hbw⟩ := hrel
    have hsz := hbw.out.size
    by_cases hjq : j < q
    · have hjI : (j : Int) < (q : Int) := by omega
      go_wp2_with (at_builtin; have hA4 : Below wr.heap.size wr (wr.alloc (Obj.cells #[.int .i64 (j : Int)] 2)) := bl_al (bl_refl _) _; refine wpList_append_own_at _ rfl _ _ 33 rfl w1.heap.size 2 iI (.int .i64 0) 1 8 Tryz.underlying33 hI hI0 hI1 hI2 rfl (by decide) (.slice F j cf) j ((idxL allC j).map (Value.int .i64)) rfl (ownsRow_below hrow.out hA4) ⟨wr.heap.size, 0, none⟩ 1 1 [.int .i64 (j : Int)] rfl rfl (cell_one_new _ _ _) (fun x hx => by simp at hx; subst hx; rfl) (by unfold maxLen; omega) (by omega) (by simp; omega) ?_; intro v5 w5 hown5 hgrow5 _ _; obtain ⟨A5, c5, rfl⟩ := ownsRow_form hown5; have hbw5 := Lib.hid (hbw.out.trans ((hA4.mono hsz).grown hgrow5 (by simp; omega) (fun g e => (hrow.out.lt g e).1))); have hown5H := Lib.hid hown5; clear hown5 hgrow5 hA4)
      go_roundg (q - (j + 1))
      case measure => omega
      case rel => exact ⟨j + 1, A5, c5, by omega, by go_num, rfl, Lib.hid (by rw [idxL_yes (show allC j = true from rfl), List.map_append]; exact hown5H.out), hbw5⟩
    · obtain rfl : j = q := by omega
      have hjI : ¬ (j : Int) < (j : Int) := by omega
      have x1 := (hbw.out.cell (p := ⟨w.heap.size + 1, 0, none⟩) la1).trans ca1
      have x2 := (hbw.out.cell (p := ⟨w.heap.size, 0, none⟩) lg1).trans cg1
      have x3 := (hbw.out.cell (p := ⟨w.heap.size, 1, none⟩) lg1).trans ct1
      have l1 : w.heap.size + 1 < wr.heap.size := by omega
      have l0 : w.heap.size < wr.heap.size := by omega
      have hBr := Lib.hid (hB1.out.trans (hbw.out.mono hB1.out.size))
      have hSr := Lib.hid (hSA.out.below hBr.out)
      have hall := Lib.hid (show (idxL allC xs.length).length = j by rw [idxL_all, hql])
      have hrow0 := Lib.hid (show wr.ownsRow 0 2 1 (.slice F j cf) j ((idxL allC xs.length).map (Value.int .i64)) by rw [hql]; exact ownsRow_base hrow.out (Nat.zero_le _))
      go_wp2_with fail
      refine (breakApart_any gs ts xs t hvH.out (by omega) (by omega) j allC G T A F n cg m ct j ca j cf _ (Nat.le_refl _) hSr.out hrow0.out hall.out).mono ?_
      rintro e w5 ⟨v, us, L, rfl, hR, hK, hLl, hb5⟩
      have hRH := Lib.hid hR
      have hKH := Lib.hid hK
      have hus : us.length = L.length := hR.len
      have hpos := hK.pos
      obtain ⟨F5, c5, rfl⟩ := ownsRow_form hR.outer
      obtain ⟨g5, rfl⟩ := ownsRow_posB hR.outer (by omega)
      obtain ⟨N, hN⟩ : ∃ N, us.length = N := ⟨_, rfl⟩
      have hB5 := Lib.hid hb5
      have hg5 := (hR.outer.lt g5 rfl).1
      rw [hN] at hRH ⊢
      have hNH := Lib.hid hN
      have hN64 : N ≤ 64 := by omega
      clear hR hK hb5 hpos hN
      go_wp2_with fail
      refine (SortFuncSS_any hNH.out hRH.out (by omega) (by omega)).mono ?_
      rintro e w6 ⟨rfl, us', L', hp, hl', hR', hg'⟩
      have hR'H := Lib.hid hR'
      have hpH := Lib.hid hp
      have hb6 := Lib.hid (show Below w.heap.size w w6 from (hBr.out.trans (hB5.out.mono (by omega))).grown hg' (by have := hB5.out.size; omega) (fun g e => by injection e with e; subst e; omega))
      clear hR' hp hg'
      go_wp2
      go_ret2
      exact ⟨g5, N, c5, us', L', L, rfl, hl', hR'H.out.rebase (by omega), hpH.out, hKH.out, hN64, hb6.out⟩
end Go.Proofs.YtmhgjgclclnmaaaGreat
/- Walk: the program's WeakestCut. -/

namespace Go.Proofs.YtmhgjgclclnmaaaGreat
open Go.RowKit Go.Shelf
attribute [local go_sem] BelowBy.cell BelowBy.cell_drew stillUpon givesUpon BelowBy.cell_drew2 BelowBy.cell_drew3

set_option maxRecDepth 100000 in
set_option maxHeartbeats 2000000 in
theorem WeakestCut_any (G T A : Option Addr) (n cg m ct q ca : Nat) (gs : List Gl) (ts : List Ti) (xs : List Pl) (w : World) (h : SA w G n T m A q gs ts xs) :
    Calls Tryz.prog 34 #[.agg #[.slice G n cg, .slice T m ct], .agg #[.slice A q ca]] w (FluxRes w (weakCutR gs ts xs)) := by
  have hSA := Lib.hid h
  have hlen := h.A.len
  have hq := h.q
  clear h
  cases hval : validAsmB gs ts xs
  · have hvH := Lib.hid hval
    clear hval
    go_enter Tryz.func34, Tryz.ntmps34
    go_wp2_with fail
    refine ((hSA.out.below (by exact bel_)).valid hvH.out).mono ?_
    rintro e w1 ⟨rfl, hb1⟩
    go_wp2
    refine bodyPost_ret (v := .tuple #[.int .i64 0, .slice none 0 0, .int .i64 1]) (by simp only [results, Tryz.results34]; go_simp) rfl ?_
    exact FluxRes.of (weakCutR_no hvH.out) (World.ownsRow_nil _ _ _ _) (by exact bel_)
  · have hvH := Lib.hid hval
    have hV := valid_of hval
    have hbl := bondsL_len hV
    clear hval
    by_cases h2 : q < 2
    · have h2H := Lib.hid h2
      have hi2 : (q : Int) < 2 := by omega
      go_enter Tryz.func34, Tryz.ntmps34
      go_wp2_with fail
      refine ((hSA.out.below (by exact bel_)).valid hvH.out).mono ?_
      rintro e w1 ⟨rfl, hb1⟩
      have ca1 := (hb1.cell (p := ⟨w.heap.size + 1, 0, none⟩) (by simp)).trans (show _ = some (Value.slice A q ca) by go_simp)
      have la1 : w.heap.size + 1 < w1.heap.size := by have := hb1.size; simp at this; omega
      go_wp2
      refine bodyPost_ret (v := .tuple #[.int .i64 0, .slice none 0 0, .int .i64 3]) (by simp only [results, Tryz.results34]; go_simp) rfl ?_
      exact FluxRes.of (weakCutR_few hvH.out (by rw [hlen]; exact h2H.out)) (World.ownsRow_nil _ _ _ _) (by exact bel_)
    · by_cases h3 : 64 < q
      · have h2H := Lib.hid h2
        have h3H := Lib.hid h3
        have hi2 : ¬ (q : Int) < 2 := by omega
        have hi3 : (64 : Int) < (q : Int) := by omega
        go_enter Tryz.func34, Tryz.ntmps34
        go_wp2_with fail
        refine ((hSA.out.below (by exact bel_)).valid hvH.out).mono ?_
        rintro e w1 ⟨rfl, hb1⟩
        have ca1 := (hb1.cell (p := ⟨w.heap.size + 1, 0, none⟩) (by simp)).trans (show _ = some (Value.slice A q ca) by go_simp)
        have la1 : w.heap.size + 1 < w1.heap.size := by have := hb1.size; simp at this; omega
        go_wp2
        refine bodyPost_ret (v := .tuple #[.int .i64 0, .slice none 0 0, .int .i64 4]) (by simp only [results, Tryz.results34]; go_simp) rfl ?_
        exact FluxRes.of (weakCutR_full hvH.out (by rw [hlen]; exact h2H.out) (by rw [hlen]; exact h3H.out)) (World.ownsRow_nil _ _ _ _) (by exact bel_)
      · have h2H := Lib.hid h2
        have h3H := Lib.hid h3
        have hi2 : ¬ (q : Int) < 2 := by omega
        have hi3 : ¬ (64 : Int) < (q : Int) := by omega
        have hq1 : 1 ≤ q := by omega
        have hbq := Lib.hid (show BondsOk q (bondsL gs ts xs) by rw [← hlen]; exact bondsOk hV)
        go_enter Tryz.func34, Tryz.ntmps34
        go_wp2_with fail
        refine ((hSA.out.below (by exact bel_)).valid hvH.out).mono ?_
        rintro e w1 ⟨rfl, hb1⟩
        have ca1 := (hb1.cell (p := ⟨w.heap.size + 1, 0, none⟩) (by simp)).trans (show _ = some (Value.slice A q ca) by go_simp)
        have cg1 := (hb1.cell (p := ⟨w.heap.size, 0, none⟩) (by simp; omega)).trans (show _ = some (Value.slice G n cg) by go_simp)
        have ct1 := (hb1.cell (p := ⟨w.heap.size, 1, none⟩) (by simp; omega)).trans (show _ = some (Value.slice T m ct) by go_simp)
        have la1 : w.heap.size + 1 < w1.heap.size := by have := hb1.size; simp at this; omega
        have lg1 : w.heap.size < w1.heap.size := by omega
        have hb1H : Below w.heap.size w w1 := by exact bel_
        go_wp2
        refine wp_region_ord [(0, .q), (1, .q), (2, .q), (3, .q), (4, .q), (5, .g), (6, .g), (7, .q), (8, .q), (9, .q), (10, .q), (11, .q)] (by kernel_rfl) (by kernel_rfl) ?_
        simp only [pick, List.filterMap_cons, List.filterMap_nil, List.getElem?_toArray, List.getElem?_cons_zero, List.getElem?_cons_succ, Option.map_some]
        repeat (first | ((with_reducible refine wpD_p (fun K hK => ?_)); go_simp; refine hK _ ?_; clear hK K) | ((with_reducible refine wpD_q (fun K hK => ?_)); go_simp; (first | refine hK _ ?_ | (go_bits; refine hK _ ?_) | (go_bits; go_simp; refine hK _ ?_)); clear hK K))
        with_reducible refine wpD_g (fun K hK => ?_)
        go_simp
        refine ((hSA.out.below (by exact bel_)).bonds hV).mono ?_
        rintro e w2 ⟨v, rfl, hrow, hb2⟩
        obtain ⟨B, cb, rfl, hB⟩ := rd_of_row hrow
        refine ⟨_, rfl, hb2, hK _ _ ?_⟩
        clear hK K hrow
        have hBH := Lib.hid hB
        clear hB
        with_reducible refine wpD_g (fun K hK => ?_)
        go_simp
        refine (weakest_any q B _ cb (bondsL gs ts xs) _ hBH.out hbq.out hq1 (by omega) (by omega)).mono ?_
        rintro e w3 ⟨v3, rfl, hrow3, hb3⟩
        refine ⟨_, rfl, hb3, hK _ _ ?_⟩
        have hrow3H := Lib.hid hrow3
        clear hK K hrow3
        repeat (first | ((with_reducible refine wpD_p (fun K hK => ?_)); go_simp; refine hK _ ?_; clear hK K) | ((with_reducible refine wpD_q (fun K hK => ?_)); go_simp; (first | refine hK _ ?_ | (go_bits; refine hK _ ?_) | (go_bits; go_simp; refine hK _ ?_)); clear hK K))
        with_reducible refine wpD_nil ?_
        go_wp2
        refine bodyPost_ret (v := .tuple #[.int .i64 (weakR q (bondsL gs ts xs)).1, v3, .int .i64 0]) (by simp only [results, Tryz.results34]; go_simp) rfl ?_
        have hbel : Below w.heap.size w w2 := by exact bel_
        refine FluxRes.of (by rw [← hlen]; exact weakCutR_yes hvH.out (by rw [hlen]; exact h2H.out) (by rw [hlen]; exact h3H.out)) ?_ (by exact bel_)
        rw [hlen]
        exact ownsRow_base hrow3H.out hbel.size
end Go.Proofs.YtmhgjgclclnmaaaGreat
/- Walk: the reference's WeakestCut. -/

namespace Go.Proofs.YtmhgjgclclnmaaaGreat
open Go.RowKit Go.Shelf
attribute [local go_sem] BelowBy.cell BelowBy.cell_drew stillUpon givesUpon BelowBy.cell_drew2 BelowBy.cell_drew3

set_option maxRecDepth 100000 in
set_option maxHeartbeats 2000000 in
theorem sWeakestCut_any (G T A : Option Addr) (n cg m ct q ca : Nat) (gs : List Gl) (ts : List Ti) (xs : List Pl) (w : World) (h : SA w G n T m A q gs ts xs) :
    Calls Tryz.prog 35 #[.agg #[.slice G n cg, .slice T m ct], .agg #[.slice A q ca]] w (FluxRes w (weakCutR gs ts xs)) := by
  have hat := Lib.hid (h.box cg ct ca)
  have hlen := h.A.len
  have hq := h.q
  clear h
  cases hval : validAsmB gs ts xs
  · have hvH := Lib.hid hval
    clear hval
    go_enter Tryz.func35, Tryz.ntmps35
    go_wp2_with (go_at_call 77; refine (hat.out.asked hvH.out).mono ?_; rintro e w1 ⟨rfl, hb1⟩; simp only [codeB_false])
    refine bodyPost_ret (v := .tuple #[.int .i64 0, .slice none 0 0, .int .i64 1]) (by simp only [results, Tryz.results35]; go_simp) rfl ?_
    exact FluxRes.of (weakCutR_no hvH.out) (World.ownsRow_nil _ _ _ _) (by exact bel_)
  · have hvH := Lib.hid hval
    have hV := valid_of hval
    have hbl := bondsL_len hV
    clear hval
    by_cases h2 : q < 2
    · have h2H := Lib.hid h2
      have hi2 : (q : Int) < 2 := by omega
      go_enter Tryz.func35, Tryz.ntmps35
      go_wp2_with (go_at_call 77; refine (hat.out.asked hvH.out).mono ?_; rintro e w1 ⟨rfl, hb1⟩; simp only [codeB_true]; have ca1 := (hb1.cell (p := ⟨w.heap.size + 1, 0, none⟩) (by simp)).trans (show _ = some (Value.slice A q ca) by go_simp); have la1 : w.heap.size + 1 < w1.heap.size := (by have := hb1.size; simp at this; omega))
      refine bodyPost_ret (v := .tuple #[.int .i64 0, .slice none 0 0, .int .i64 3]) (by simp only [results, Tryz.results35]; go_simp) rfl ?_
      exact FluxRes.of (weakCutR_few hvH.out (by rw [hlen]; exact h2H.out)) (World.ownsRow_nil _ _ _ _) (by exact bel_)
    · by_cases h3 : 64 < q
      · have h2H := Lib.hid h2
        have h3H := Lib.hid h3
        have hi2 : ¬ (q : Int) < 2 := by omega
        have hi3 : (64 : Int) < (q : Int) := by omega
        go_enter Tryz.func35, Tryz.ntmps35
        go_wp2_with (go_at_call 77; refine (hat.out.asked hvH.out).mono ?_; rintro e w1 ⟨rfl, hb1⟩; simp only [codeB_true]; have ca1 := (hb1.cell (p := ⟨w.heap.size + 1, 0, none⟩) (by simp)).trans (show _ = some (Value.slice A q ca) by go_simp); have la1 : w.heap.size + 1 < w1.heap.size := (by have := hb1.size; simp at this; omega))
        refine bodyPost_ret (v := .tuple #[.int .i64 0, .slice none 0 0, .int .i64 4]) (by simp only [results, Tryz.results35]; go_simp) rfl ?_
        exact FluxRes.of (weakCutR_full hvH.out (by rw [hlen]; exact h2H.out) (by rw [hlen]; exact h3H.out)) (World.ownsRow_nil _ _ _ _) (by exact bel_)
      · have h2H := Lib.hid h2
        have h3H := Lib.hid h3
        have hi2 : ¬ (q : Int) < 2 := by omega
        have hi3 : ¬ (64 : Int) < (q : Int) := by omega
        have hq1 : 1 ≤ q := by omega
        have hbq := Lib.hid (show BondsOk q (bondsL gs ts xs) by rw [← hlen]; exact bondsOk hV)
        go_enter Tryz.func35, Tryz.ntmps35
        go_wp2_with (go_at_call 77; refine (hat.out.asked hvH.out).mono ?_; rintro e w1 ⟨rfl, hb1⟩; simp only [codeB_true]; have hat1 := Lib.hid (hat.out.below hb1); have ca1 := (hb1.cell (p := ⟨w.heap.size + 1, 0, none⟩) (by simp)).trans (show _ = some (Value.slice A q ca) by go_simp); have la1 : w.heap.size + 1 < w1.heap.size := (by have := hb1.size; simp at this; omega))
        refine wp_region_ord [(0, .q), (1, .q), (2, .q), (3, .g), (4, .g), (5, .q), (6, .q), (7, .q), (8, .q), (9, .q)] (by kernel_rfl) (by kernel_rfl) ?_
        simp only [pick, List.filterMap_cons, List.filterMap_nil, List.getElem?_toArray, List.getElem?_cons_zero, List.getElem?_cons_succ, Option.map_some]
        repeat (first | ((with_reducible refine wpD_p (fun K hK => ?_)); go_simp; refine hK _ ?_; clear hK K) | ((with_reducible refine wpD_q (fun K hK => ?_)); go_simp; (first | refine hK _ ?_ | (go_bits; refine hK _ ?_) | (go_bits; go_simp; refine hK _ ?_)); clear hK K))
        with_reducible refine wpD_g (fun K hK => ?_)
        go_simp
        refine ((hat1.out.below (by exact bel_)).bonds hV).mono ?_
        rintro e w2 ⟨v, rfl, hrow, hb2⟩
        obtain ⟨B, cb, rfl, hB⟩ := rd_of_row hrow
        refine ⟨_, rfl, hb2, hK _ _ ?_⟩
        clear hK K hrow
        have hBH := Lib.hid hB
        clear hB
        with_reducible refine wpD_g (fun K hK => ?_)
        go_simp
        refine (l07Weakest_any q B _ cb (bondsL gs ts xs) _ hBH.out hbq.out hq1 (by omega) (by omega)).mono ?_
        rintro e w3 ⟨v3, rfl, hrow3, hb3⟩
        refine ⟨_, rfl, hb3, hK _ _ ?_⟩
        have hrow3H := Lib.hid hrow3
        clear hK K hrow3
        repeat (first | ((with_reducible refine wpD_p (fun K hK => ?_)); go_simp; refine hK _ ?_; clear hK K) | ((with_reducible refine wpD_q (fun K hK => ?_)); go_simp; (first | refine hK _ ?_ | (go_bits; refine hK _ ?_) | (go_bits; go_simp; refine hK _ ?_)); clear hK K))
        with_reducible refine wpD_nil ?_
        go_wp2
        refine bodyPost_ret (v := .tuple #[.int .i64 (weakR q (bondsL gs ts xs)).1, v3, .int .i64 0]) (by simp only [results, Tryz.results35]; go_simp) rfl ?_
        have hbel : Below w.heap.size w w2 := by exact bel_
        refine FluxRes.of (by rw [← hlen]; exact weakCutR_yes hvH.out (by rw [hlen]; exact h2H.out) (by rw [hlen]; exact h3H.out)) ?_ (by exact bel_)
        rw [hlen]
        exact ownsRow_base hrow3H.out hbel.size
end Go.Proofs.YtmhgjgclclnmaaaGreat
