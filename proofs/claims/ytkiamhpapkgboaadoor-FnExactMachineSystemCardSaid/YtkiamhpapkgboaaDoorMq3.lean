/- Walks: the program's row of a machine. -/
import Derived.Test.YtkiamhpapkgboaaDoorMq1p
namespace Go.Proofs.YtkiamhpapkgboaaDoor
open Go.RowKit Go.Shelf
set_option linter.unusedSimpArgs false
set_option linter.unusedVariables false
attribute [local go_sem] BelowBy.cell BelowBy.cell_drew stillUpon givesUpon

def cR (Q S n : Nat) : List Cd := cG Q S ++ cZ n
theorem mem_cR {Q S n : Nat} {c : Cd} : c ∈ cR Q S n ↔ (c.1 = 0 ∧ c.2.1 < S ∧ c.2.2 = 0) ∨ ((c.1 = 1 ∧ c.2.1 < Q ∧ c.2.2 = 0) ∨ (c.1 = 2 ∧ c.2.1 < Q ∧ c.2.2 < S)) ∨ (3 ≤ c.1 ∧ c.1 < 7 ∧ c.2.1 = 0 ∧ c.2.2 = 0) ∨ (c.1 = 7 ∧ c.2.1 < n ∧ c.2.2 = 0) := by
  simp only [cR, cG, List.mem_append, mem_cA, mem_cM, mem_cB, mem_cZ]
  omega
theorem cR_gU {Q S n : Nat} (hQ : Q ≤ 5) (hS : S ≤ 4) (hn : n ≤ 13) : ∀ d ∈ cR Q S n, d ∈ gU := fun d hd => in_gU (by rw [mem_cR] at hd; omega)
theorem len_cR (Q S n : Nat) : (cR Q S n).length = S + Q * (S + 1) + 4 + n := by
  simp only [cR, cG, List.length_append, len_cA, len_cM, len_cB, len_cZ]
theorem cR_succ (Q S n : Nat) : cR Q S (n + 1) = cR Q S n ++ [(7, n, 0)] := by unfold cR; rw [cZ_succ, List.append_assoc]
theorem numbered_i {u : Nat} {x : Int} {wd s : ByteArray} (w : World) (hx : (u : Int) = x) (hw : wd.size ≤ 100) (h1 : u < 1000) (hT : Tab w) (hs : wd ++ decN u = s) :
    Calls Tryd.prog 72 #[.string wd, .int .i64 x] w fun e w' => e = .returned (.string s) ∧ Below w.heap.size w w' := hx ▸ numbered_n w hw h1 hT hs
theorem tileX_at {X : Nat → Prop} {b bm : Nat} {gs : List Gl} {ts : List Ti} {nm : ByteArray} {A : Option Addr} {n c L : Nat} {ss : List ByteArray} {w : World} (h : MkrX w b bm (gs, ts) X) (hX : ∀ g, X g → g < w.heap.size) (hA : RdSl 1 RNm w A n ss) (hz : nm.size ≤ 1000) (hzs : ∀ s ∈ ss, s.size ≤ 1000) (hn : n ≤ 1000) (hg : gs.length ≤ 1000) (hl : ts.length = L) (hL : L ≤ 1000) :
    Calls Tryd.prog 74 #[.pointer (some ⟨b, 0, none⟩), .string nm, .slice A n c] w fun e w' => e = .returned (.int .i64 (L : Int)) ∧ MkrX w' b bm (addT (gs, ts) nm ss) X ∧ Far MkTs w w' ∧ Below bm w w' := by
  subst hl
  exact tileX_any X b bm (gs, ts) nm A n c ss w h hX hA hz hzs hn hg hL
theorem wrapQ {n : Int} (h1 : -9000000000000000000 ≤ n) (h2 : n ≤ 9000000000000000000) : IntKind.i64.wrap n = n := by
  simp [IntKind.wrap, IntKind.bits, IntKind.signed]; omega
theorem Far.grownHi {Ts : List TypeId} {w w1 w2 : World} {B : Nat} {row : Option Nat} (hf : Far Ts w w1) (hb : Below B w w1) (hg : w1.grownBy w2 row) (hrow : ∀ g, row = some g → w.heap.size ≤ g) : Far Ts w w2 :=
  fun b T M f hr hT => (hg.block b (Nat.lt_of_lt_of_le hr.lt hb.size) (fun e => by have := hrow b e.symm; have := hr.lt; omega)).trans (hf b T M f hr hT)
theorem BxT.grown {w w' : World} {k : Nat} {T : TypeId} {l : List Value} {row : Option Nat} (h : BxT w k T l) (hg : w.grownBy w' row) (hne : row ≠ some k) : BxT w' k T l := by
  obtain ⟨h1, M, f, hr⟩ := h
  exact ⟨h1.grown hg hne, M, f, hr.of_block (hg.block k hr.lt (fun e => hne e.symm))⟩
theorem infoPlM : (Tryd.prog.info? 95).map (fun i => (i.zero, i.size, i.bytes)) = some (some (.agg #[.int .i64 0, .int .i64 0, .int .i64 0]), 3, 24) := by kernel_rfl
theorem cell_three_newM (w : World) (a b c : Value) (t : TypeId) : ∀ j u, [a, b, c][j]? = some u → (w.alloc (Obj.cells #[a, b, c] t)).cell? ((⟨w.heap.size, 0, none⟩ : Addr).add j) = some u := by
  intro j u hj
  match j, hj with
  | 0, hj => simp at hj; subst hj; simp [Addr.add]
  | 1, hj => simp at hj; subst hj; simp [Addr.add]
  | 2, hj => simp at hj; subst hj; simp [Addr.add]
  | j + 3, hj => simp at hj
theorem MkrX.setT {w : World} {b bm q N i : Nat} {st : List Gl × List Ti} {X : Nat → Prop} {T : TypeId} {f : Nat → Value} (h : MkrX w b bm st X) (hr : w.rowIs q T N f) (hne : 108 ≠ T ∧ 87 ≠ T ∧ 91 ≠ T ∧ 2 ≠ T) (u : Value) : MkrX (w.setCell ⟨q, i, none⟩ u) b bm st X := by
  obtain ⟨n, A1, c1, B2, c2, us, h⟩ := h
  obtain ⟨M, f', hr'⟩ := h.ty
  have hbq : b ≠ q := fun e => by
    subst e
    obtain ⟨c1, h1, _⟩ := hr
    obtain ⟨c2, h2, _⟩ := hr'
    rw [h1] at h2
    injection h2 with h2
    injection h2 with _ h2
    exact hne.1 h2.symm
  have hmq : bm ≠ q := fun e => by
    subst e
    obtain ⟨es, clock, hh⟩ := h.mp.isMap
    obtain ⟨cur, h2, _⟩ := hr
    rw [hh] at h2
    cases h2
  have hg : w.grownBy (w.setCell ⟨q, i, none⟩ u) (some q) := ⟨rfl, rfl, rfl, by simp, fun k hk hne => Below.heap_setCell _ _ _ _ (fun e => hne (by rw [e]))⟩
  refine ⟨n, A1, c1, B2, c2, us, h.bx.setOther (a := ⟨q, i, none⟩) (Ne.symm hbq) u, ⟨M, f', hr'.of_block (Below.heap_setCell _ _ _ _ hbq)⟩, ownsRow_setCell_other (a := ⟨q, i, none⟩) h.gl (own_ne_row h.gl hr hne.2.1) u, h.ti.kept hg (fun g' e => ?_), h.mp.block (Below.heap_setCell _ _ _ _ hmq), h.le, h.lt, h.av⟩
  injection e with e
  subst e
  refine ⟨own_ne_row h.ti.outer hr hne.2.2.1, fun k u' hu' => ?_⟩
  obtain ⟨t, _, hr'⟩ := h.ti.get hu'
  exact own_ne_row hr' hr hne.2.2.2
theorem z0_eq : gnm (7, 0, 0) = ⟨#[122, 48]⟩ := by rw [gnm_T (in_gU (by simp))]; decide +kernel
def RowR (b bm : Nat) (Q S : Nat) (ts : List Ti) (l : List Int) (h s : Nat) (w : World) (e : Ending) (w' : World) : Prop :=
  ∃ A c, e = .returned (.agg #[.slice A (l.length + 2) c]) ∧ Mkr w' b bm (glG (cR Q S (l.length + 1)), ts ++ rowT (glG (cR Q S (l.length + 1))) l h s) ∧ w'.ownsRow w.heap.size 95 3 (.slice A (l.length + 2) c) (l.length + 2) (plCells (seedP ts.length (l.length + 2))) ∧ Far MkTs w w' ∧ Below bm w w'
set_option maxRecDepth 100000 in
set_option maxHeartbeats 8000000 in
theorem row_any (b bm Q S mn mc n tc h s : Nat) (MA TA : Option Addr) (ts : List Ti) (l : List Int) (w : World) (hM : Mkr w b bm (glG (cG Q S), ts)) (hA : ∀ w', Below bm w w' → RdSl 1 RInt w' TA n l) (hok : ∀ a ∈ l, 0 ≤ a ∧ a < S) (hQ : Q ≤ 5) (hS : S ≤ 4) (hn : n ≤ 12) (hh : h < n) (hs : s < Q) (hts : ts.length ≤ 900) (hT : TabB bm w) :
    Calls Tryd.prog 54 #[.agg #[.pointer (some ⟨b, 0, none⟩), .int .i64 (Q : Int), .int .i64 (S : Int), .slice MA mn mc], .agg #[.slice TA n tc, .int .i64 (h : Int), .int .i64 (s : Int)]] w (RowR b bm Q S ts l h s w) := by
  obtain ⟨i1, hi', hz0', hz1', hz2'⟩ := info_parts infoI
  obtain ⟨iP, hiP, hP0, hP1, hP2⟩ := info_parts infoPlM
  have hlt := hM.lt
  have hml := Lib.hid (hA w (Below.refl _ _)).len
  have hAH := Lib.hid hA
  have hokH := Lib.hid hok
  have hH := Lib.hid hM
  have hTH := Lib.hid hT
  clear hM hT hA hok
  have hal : Below w.heap.size w (((w.alloc (Obj.cells #[.pointer (some ⟨b, 0, none⟩), .int .i64 (Q : Int), .int .i64 (S : Int), .slice MA mn mc] 104)).alloc (Obj.cells #[.slice TA n tc, .int .i64 (h : Int), .int .i64 (s : Int)] 45)).alloc (Obj.cells #[.slice none 0 0] 36)) := bl_al (bl_al (bl_al (bl_refl _) _) _) _
  have bX0 := Lib.hid (((BxT.made w [.pointer (some ⟨b, 0, none⟩), .int .i64 (Q : Int), .int .i64 (S : Int), .slice MA mn mc] 104).below (bl_al (bl_refl _) (Obj.cells #[.slice TA n tc, .int .i64 (h : Int), .int .i64 (s : Int)] 45))).below (bl_al (bl_refl _) (Obj.cells #[.slice none 0 0] 36)))
  have bC0 := Lib.hid ((BxT.made (w.alloc (Obj.cells #[.pointer (some ⟨b, 0, none⟩), .int .i64 (Q : Int), .int .i64 (S : Int), .slice MA mn mc] 104)) [.slice TA n tc, .int .i64 (h : Int), .int .i64 (s : Int)] 45).below (bl_al (bl_refl _) (Obj.cells #[.slice none 0 0] 36)))
  have bR0 := Lib.hid (BxT.made ((w.alloc (Obj.cells #[.pointer (some ⟨b, 0, none⟩), .int .i64 (Q : Int), .int .i64 (S : Int), .slice MA mn mc] 104)).alloc (Obj.cells #[.slice TA n tc, .int .i64 (h : Int), .int .i64 (s : Int)] 45)) [.slice none 0 0] 36)
  simp only [World.size_alloc] at bC0 bR0
  have hM0 := Lib.hid (hH.out.below hal)
  have hfar0 := Lib.hid (Far.of_below (Ts := MkTs) hal)
  have hbw0 := Lib.hid (hal.mono (show bm ≤ w.heap.size by omega))
  clear hal
  go_enter Tryd.func54, Tryd.ntmps54
  go_wp2
  go_loopg [20] (n + 1) (fun g i wr => ∃ (k : Nat), k + g = n + 1 ∧ i = .int .i64 (k : Int) ∧ Hid (Mkr wr b bm (glG (cR Q S k), ts)) ∧ Hid (BxT wr w.heap.size 104 [.pointer (some ⟨b, 0, none⟩), .int .i64 (Q : Int), .int .i64 (S : Int), .slice MA mn mc]) ∧ Hid (BxT wr (w.heap.size + 1) 45 [.slice TA n tc, .int .i64 (h : Int), .int .i64 (s : Int)]) ∧ Hid (BxT wr (w.heap.size + 1 + 1) 36 [.slice none 0 0]) ∧ Hid (Far MkTs w wr) ∧ Hid (Below bm w wr))
  case atStart => exact ⟨0, by omega, rfl, by simp only [cR, cZ, List.range_zero, List.map_nil, List.append_nil]; exact hM0, bX0, bC0, bR0, hfar0, hbw0⟩
  case round =>
    clear hM0 bX0 bC0 bR0 hfar0 hbw0
    obtain ⟨k, hk, rfl, hM, bX, bC, bR, hfar, hbw⟩ := hrel
    have hszl := hbw.out.size
    have x0 := bX.out.1.cell 0 _ rfl
    have lx := bX.out.1.lt
    have y0 := bC.out.1.cell 0 _ rfl
    have y1 := bC.out.1.cell 1 _ rfl
    have y2 := bC.out.1.cell 2 _ rfl
    have ly := bC.out.1.lt
    have hTr := Lib.hid (hTH.out.below hbw.out)
    by_cases hkn : k < n + 1
    · have hkI : (k : Int) < (n : Int) + 1 := by omega
      obtain ⟨nm, hnm⟩ : ∃ nm, (⟨#[122]⟩ : ByteArray) ++ decN k = nm := ⟨_, rfl⟩
      have hgnH := Lib.hid (show gnm (7, k, 0) = nm by rw [← hnm]; rfl)
      have hfrH := Lib.hid (show numG (glG (cR Q S k)) nm = 0 by
        rw [← hgnH.out]
        exact fresh_g (cR_gU hQ hS (by omega)) (in_gU (by simp <;> omega)) (by rw [mem_cR]; simp))
      have hmul : Q * (S + 1) ≤ 5 * 5 := Nat.mul_le_mul (by omega) (by omega)
      have hlenH := Lib.hid (show (glG (cR Q S k)).length ≤ 1000 by rw [glG_len, len_cR]; omega)
      have hnz : nm.size ≤ 1000 := by rw [← hgnH.out]; have := gnm_size (c := (7, k, 0)) (in_gU (by simp <;> omega)); omega
      have hnmH := Lib.hid hnm
      clear hnm hmul
      go_wp2_with fail
      refine wp_region_ord [(0, .q), (1, .q), (2, .q), (3, .g), (4, .b)] (by kernel_rfl) (by kernel_rfl) ?_
      simp only [pick, List.filterMap_cons, List.filterMap_nil, List.getElem?_toArray, List.getElem?_cons_zero, List.getElem?_cons_succ, Option.map_some]
      repeat (first | ((with_reducible refine wpD_p (fun K hK => ?_)); go_simp; refine hK _ ?_; clear hK K) | ((with_reducible refine wpD_q (fun K hK => ?_)); go_simp; (first | refine hK _ ?_ | (go_bits; refine hK _ ?_) | (go_bits; go_simp; refine hK _ ?_)); clear hK K))
      with_reducible refine wpD_g (fun K hK => ?_)
      go_simp
      refine (numbered_n (u := k) _ (by decide) (by omega) (hTr.out.here.below (bl_dr (bl_refl _))) hnmH.out).mono ?_
      rintro e w5 ⟨rfl, hb5⟩
      refine ⟨_, rfl, hb5, hK _ _ ?_⟩
      clear hK K
      have hb5w : Below wr.heap.size wr w5 := (bl_dr (bl_refl _)).trans (hb5.mono (by simp))
      repeat (first | ((with_reducible refine wpD_p (fun K hK => ?_)); go_simp; refine hK _ ?_; clear hK K) | ((with_reducible refine wpD_q (fun K hK => ?_)); go_simp; (first | refine hK _ ?_ | (go_bits; refine hK _ ?_) | (go_bits; go_simp; refine hK _ ?_)); clear hK K))
      with_reducible refine wpD_b (fun K hK => ?_)
      go_simp
      refine (glue_any b bm (glG (cR Q S k), ts) nm 2 w5 (hM.out.below hb5w) hfrH.out hnz hlenH.out).mono ?_
      rintro e w6 ⟨rfl, hM6, hF6, hB6⟩
      refine ⟨_, rfl, hK _ _ ?_⟩
      clear hK K
      with_reducible refine wpD_nil ?_
      rw [addG_cd (s := 2) _ _ (7, k, 0) hgnH.out (by simp [gst])] at hM6
      have hM7 := Lib.hid hM6
      have hfar7 := Lib.hid ((hfar.out.trans (Far.of_below hb5w)).trans hF6)
      have bw7 := Lib.hid ((hbw.out.trans (hb5w.mono (show bm ≤ wr.heap.size by omega))).trans hB6)
      have bX7 := Lib.hid ((bX.out.below hb5w).far hF6 (by decide) hB6)
      have bC7 := Lib.hid ((bC.out.below hb5w).far hF6 (by decide) hB6)
      have bR7 := Lib.hid ((bR.out.below hb5w).far hF6 (by decide) hB6)
      clear hM6 hF6 hB6 hb5 hb5w hM bX bC bR hfar hbw x0 lx y0 y1 y2 ly hnz hgnH hfrH hlenH hnmH
      go_wp2
      go_roundg (n + 1 - (k + 1))
      case measure => omega
      case rel => exact ⟨k + 1, by omega, by go_num, by rw [cR_succ]; exact hM7, bX7, bC7, bR7, hfar7, bw7⟩
    · obtain rfl : k = n + 1 := by omega
      obtain ⟨gs, hgs⟩ : ∃ gs, glG (cR Q S (n + 1)) = gs := ⟨_, rfl⟩
      have hmul : Q * (S + 1) ≤ 5 * 5 := Nat.mul_le_mul (by omega) (by omega)
      have hgl : gs.length ≤ 1000 := by rw [← hgs, glG_len, len_cR]; omega
      have hdH := Lib.hid (show numG gs ⟨#[45]⟩ = 0 by rw [← hgs]; exact (num_dash (cR_gU hQ hS (by omega))).1)
      have hgsH := Lib.hid hgs
      have hM0 := hM.out
      rw [hgs] at hM0
      have hM1 := Lib.hid hM0
      have kbl := Lib.hid (NmG.of (c := (5, 0, 0)) (s := ⟨#[98, 108]⟩) (in_gU (by simp)) rfl)
      have kbr := Lib.hid (NmG.of (c := (6, 0, 0)) (s := ⟨#[98, 114]⟩) (in_gU (by simp)) rfl)
      have kz := Lib.hid (NmG.of (c := (7, 0, 0)) (s := ⟨#[122, 48]⟩) (in_gU (by simp)) z0_eq)
      have kF := Lib.hid (NmT.of (c := (7, 0, 0)) (s := ⟨#[102, 105, 114, 115, 116]⟩) (in_tU (by simp)) rfl)
      have kZ := Lib.hid (NmT.of (c := (9, 0, 0)) (s := ⟨#[108, 97, 115, 116]⟩) (in_tU (by simp)) rfl)
      clear hgs hM hM0 hmul
      go_wp2_with (go_at_call 74; refine (tile_any b bm (gs, ts) ⟨#[102, 105, 114, 115, 116]⟩ _ _ _ [⟨#[98, 108]⟩, ⟨#[122, 48]⟩, ⟨#[45]⟩, ⟨#[45]⟩] _ (hM1.out.below (bl_al (bl_refl _) _)) (rd4 _ _ _ _ _ _ rfl) (by decide) (zs4 kbl.out.sz kz.out.sz (by decide) (by decide)) (by omega) hgl (by simp only; omega)).mono ?_; rintro e w6 ⟨rfl, hM6, hF6, hB6⟩; rw [addT_cd gs _ (7, 0, 0) kF.out.eq (sd_some kbl.out.eq) (sd_some kz.out.eq) (sd_none hdH.out) (sd_none hdH.out)] at hM6; have hM7 := Lib.hid hM6; have hfar7 := Lib.hid ((hfar.out.trans (Far.of_below (bl_al (bl_refl _) _))).trans hF6); have bw7 := Lib.hid ((hbw.out.trans ((bl_al (bl_refl wr) _).mono (show bm ≤ wr.heap.size by omega))).trans hB6); have bX7 := Lib.hid ((bX.out.below (bl_al (bl_refl _) _)).far hF6 (by decide) hB6); have bC7 := Lib.hid ((bC.out.below (bl_al (bl_refl _) _)).far hF6 (by decide) hB6); have bR7 := Lib.hid ((bR.out.below (bl_al (bl_refl _) _)).far hF6 (by decide) hB6); have x0 := bX7.out.1.cell 0 _ rfl; have lx := bX7.out.1.lt; have y0 := bC7.out.1.cell 0 _ rfl; have ly := bC7.out.1.lt; clear hM6 hF6 hB6)
      have hal : Below w6.heap.size w6 (w6.alloc (Obj.cells #[.int .i64 (ts.length : Int)] 2)) := bl_al (bl_refl _) _
      have hMX : Hid (MkrX (w6.alloc (Obj.cells #[.int .i64 (ts.length : Int)] 2)) b bm (gs, ts ++ [tF gs] ++ tCs gs l h s 0) (fun q => (Value.slice (some ⟨w6.heap.size, 0, none⟩) (0 + 1) 1).ownBlock = some q)) := Lib.hid (by
        show MkrX _ b bm (gs, ts ++ [tF gs] ++ []) _
        rw [List.append_nil]
        exact (hM7.out.clear_ (fun g e => .inr (by
          have e2 : w6.heap.size = g := by injection e
          omega))).below hal)
      have hlR := bR7.out.1.lt
      have hsz6 := bw7.out.size
      go_loopg [37, 7] n (fun g i v wr => ∃ (k : Nat) (A : Option Addr) (c : Nat), k + g = n ∧ i = .int .i64 (k : Int) ∧ v = .slice A (k + 1) c ∧ Hid (MkrX wr b bm (gs, ts ++ [tF gs] ++ tCs gs l h s k) (fun q => (Value.slice A (k + 1) c).ownBlock = some q)) ∧ Hid (wr.ownsRow (w.heap.size + 3) 2 1 (.slice A (k + 1) c) (k + 1) (numsT ts.length (k + 1))) ∧ Hid (BxT wr w.heap.size 104 [.pointer (some ⟨b, 0, none⟩), .int .i64 (Q : Int), .int .i64 (S : Int), .slice MA mn mc]) ∧ Hid (BxT wr (w.heap.size + 1) 45 [.slice TA n tc, .int .i64 (h : Int), .int .i64 (s : Int)]) ∧ Hid (BxT wr (w.heap.size + 1 + 1) 36 [.slice none 0 0]) ∧ Hid (Far MkTs w wr) ∧ Hid (Below bm w wr))
      case atStart => exact ⟨0, some ⟨w6.heap.size, 0, none⟩, 1, by omega, rfl, rfl, hMX, Lib.hid (World.ownsRow_lit (base := w.heap.size + 3) (e := 2) (size := 1) w6 #[.int .i64 (ts.length : Int)] 1 (by omega) (by decide) rfl), Lib.hid (bX7.out.below hal), Lib.hid (bC7.out.below hal), Lib.hid (bR7.out.below hal), Lib.hid (hfar7.out.trans (Far.of_below hal)), Lib.hid (bw7.out.trans (hal.mono (show bm ≤ w6.heap.size by omega)))⟩
      case round =>
        clear hM7 hfar7 bw7 bX7 bC7 bR7 x0 lx y0 ly hal hlR hsz6 hM1 hMX
        obtain ⟨k, A, c, hk, rfl, rfl, hM, hrow, bX, bC, bR, hfar, hbw⟩ := hrel
        have hszl := hbw.out.size
        have x0 := bX.out.1.cell 0 _ rfl
        have lx := bX.out.1.lt
        have y0 := bC.out.1.cell 0 _ rfl
        have y1 := bC.out.1.cell 1 _ rfl
        have y2 := bC.out.1.cell 2 _ rfl
        have ly := bC.out.1.lt
        have hTr := Lib.hid (hTH.out.below hbw.out)
        by_cases hkn : k < n
        · obtain ⟨a, ha⟩ : ∃ a, l[k]? = some a := ⟨_, List.getElem?_eq_getElem (by rw [hml.out]; exact hkn)⟩
          obtain ⟨bb, ob, rfl, hbb, hbc⟩ := (hAH.out wr hbw.out).ptr (by omega)
          have hoa := hokH.out a (List.mem_of_getElem? ha)
          have hgd : l.getD k 0 = a := by rw [List.getD_eq_getElem?_getD, ha]; rfl
          have p0 : wr.cell? ⟨bb, ob + k, none⟩ = some (.int .i64 a) := by have := hbc k a ha; rw [Nat.mul_one] at this; exact this
          obtain ⟨va, rfl⟩ : ∃ v : Nat, a = (v : Int) := ⟨a.toNat, by omega⟩
          have hva : va < 4 := by omega
          obtain ⟨na, hna⟩ : ∃ s, (⟨#[97]⟩ : ByteArray) ++ decN va = s := ⟨_, rfl⟩
          have ka := Lib.hid (NmG.of (c := (0, va, 0)) (in_gU (by simp <;> omega)) hna)
          have hnaH := Lib.hid hna
          have hkI0 : (k : Int) < (n : Int) := by omega
          clear hbc ha hoa hna
          by_cases hkh : k = h
          · have hcode := Lib.hid (show ownC l h s k = (2, s, va) by unfold ownC; rw [if_pos hkh, hgd]; rfl)
            subst hkh
            obtain ⟨nh, hnh⟩ : ∃ s', pairN ⟨#[104]⟩ s va = s' := ⟨_, rfl⟩
            have kh := Lib.hid (NmG.of (c := (2, s, va)) (in_gU (by simp <;> omega)) hnh)
            have hnhH := Lib.hid hnh
            clear hgd hnh
            go_wp2_with fail
            refine (numbered_n (u := va) _ (by decide) (by omega) hTr.out.here hnaH.out).mono ?_
            rintro e w5 ⟨rfl, jb⟩
            have y1 := (jb.cell (p := ⟨w.heap.size + 1, 1, none⟩) ly).trans y1
            have y2 := (jb.cell (p := ⟨w.heap.size + 1, 2, none⟩) ly).trans y2
            have ly2 := Nat.lt_of_lt_of_le ly jb.size
            go_wp2_with fail
            refine (paired_n (a := s) (b := va) _ (by decide) (by omega) (by omega) (hTr.out.here.below jb) hnhH.out).mono ?_
            rintro e w5h ⟨rfl, hb⟩
            replace jb := jb.trans (hb.mono jb.size)
            clear hb ly2 y1 y2
            clear x0 lx y0 y1 y2 ly p0 hbb
            replace hM := Lib.hid (hM.out.below jb)
            replace hrow := Lib.hid (ownsRow_below hrow.out jb)
            replace bX := Lib.hid (bX.out.below jb)
            replace bC := Lib.hid (bC.out.below jb)
            replace bR := Lib.hid (bR.out.below jb)
            replace hfar := Lib.hid (hfar.out.trans (Far.of_below jb))
            replace hTr := Lib.hid (hTr.out.below (jb.mono (show bm ≤ wr.heap.size by omega)))
            replace hbw := Lib.hid (hbw.out.trans (jb.mono (show bm ≤ wr.heap.size by omega)))
            clear jb hszl
            obtain ⟨wr, hwr⟩ : ∃ x : World, x = w5h := ⟨_, rfl⟩
            subst hwr
            have hszl := hbw.out.size
            have x0 := bX.out.1.cell 0 _ rfl
            have lx := bX.out.1.lt
            have y0 := bC.out.1.cell 0 _ rfl
            have y1 := bC.out.1.cell 1 _ rfl
            have y2 := bC.out.1.cell 2 _ rfl
            have ly := bC.out.1.lt
            have hTr := Lib.hid (hTH.out.below hbw.out)
            obtain ⟨ncl, hncl⟩ : ∃ s, (⟨#[99, 101, 108, 108]⟩ : ByteArray) ++ decN k = s := ⟨_, rfl⟩
            obtain ⟨k1, hk1⟩ : ∃ k1 : Nat, k + 1 = k1 := ⟨_, rfl⟩
            have hwk : IntKind.i64.wrap ((k : Int) + 1) = (k1 : Int) := by rw [wrapQ (by omega) (by omega)]; omega
            have hk1b : k1 < 13 := by omega
            obtain ⟨nz1, hnz1⟩ : ∃ s, (⟨#[122]⟩ : ByteArray) ++ decN k1 = s := ⟨_, rfl⟩
            obtain ⟨nz0, hnz0⟩ : ∃ s, (⟨#[122]⟩ : ByteArray) ++ decN k = s := ⟨_, rfl⟩
            have kc := Lib.hid (NmT.of (c := (8, k, 0)) (in_tU (by simp <;> omega)) hncl)
            have kz1 := Lib.hid (NmG.of (c := (7, k + 1, 0)) (s := nz1) (in_gU (by simp <;> omega)) (by rw [← hnz1, ← hk1]; rfl))
            clear hk1
            have kz0 := Lib.hid (NmG.of (c := (7, k, 0)) (in_gU (by simp <;> omega)) hnz0)
            have hnclH := Lib.hid hncl
            have hnz1H := Lib.hid hnz1
            have hnz0H := Lib.hid hnz0
            obtain ⟨tk, htk⟩ : ∃ tk : Nat, ts.length + (k + 1) = tk := ⟨_, rfl⟩
            have hL := Lib.hid (show (ts ++ [tF gs] ++ tCs gs l k s k).length = tk by simp only [List.length_append, List.length_cons, List.length_nil, len_tCs]; omega)
            have htkb : tk ≤ 920 := by omega
            have htkH := Lib.hid htk
            clear htk
            have hXb : ∀ g, (Value.slice A (k + 1) c).ownBlock = some g → w.heap.size + 3 ≤ g ∧ g < wr.heap.size := fun g e => hrow.out.lt g e
            have hXbH := Lib.hid hXb
            clear hncl hnz1 hnz0 hXb
            go_wp2_with fail
            have jb : Below wr.heap.size wr wr.drew := bl_dr (bl_refl _)
            refine wp_region_ord [(0, .p), (1, .q), (2, .q), (3, .q), (5, .q), (6, .q), (7, .q), (9, .q), (4, .g), (8, .g), (10, .g), (11, .g), (12, .b), (13, .g), (14, .b), (15, .q)] (by kernel_rfl) (by kernel_rfl) ?_
            simp only [pick, List.filterMap_cons, List.filterMap_nil, List.getElem?_toArray, List.getElem?_cons_zero, List.getElem?_cons_succ, Option.map_some]
            repeat (first | ((with_reducible refine wpD_p (fun K hK => ?_)); go_simp; refine hK _ ?_; clear hK K) | ((with_reducible refine wpD_q (fun K hK => ?_)); go_simp; (first | refine hK _ ?_ | (go_bits; refine hK _ ?_) | (go_bits; go_simp; refine hK _ ?_)); clear hK K))
            with_reducible refine wpD_g (fun K hK => ?_)
            go_simp
            refine (numbered_n (u := k) _ (by decide) (by omega) (hTr.out.here.below jb) hnclH.out).mono ?_
            rintro e w5 ⟨rfl, hb⟩
            refine ⟨_, rfl, hb, hK _ _ ?_⟩
            clear hK K
            replace jb := jb.trans (hb.mono jb.size)
            clear hb
            repeat (first | ((with_reducible refine wpD_p (fun K hK => ?_)); go_simp; refine hK _ ?_; clear hK K) | ((with_reducible refine wpD_q (fun K hK => ?_)); go_simp; (first | refine hK _ ?_ | (go_bits; refine hK _ ?_) | (go_bits; go_simp; refine hK _ ?_)); clear hK K))
            with_reducible refine wpD_g (fun K hK => ?_)
            go_simp
            refine (numbered_n (u := k1) _ (by decide) (by omega) (hTr.out.here.below jb) hnz1H.out).mono ?_
            rintro e w5b ⟨rfl, hb⟩
            refine ⟨_, rfl, hb, hK _ _ ?_⟩
            clear hK K
            replace jb := jb.trans (hb.mono jb.size)
            clear hb
            repeat (first | ((with_reducible refine wpD_p (fun K hK => ?_)); go_simp; refine hK _ ?_; clear hK K) | ((with_reducible refine wpD_q (fun K hK => ?_)); go_simp; (first | refine hK _ ?_ | (go_bits; refine hK _ ?_) | (go_bits; go_simp; refine hK _ ?_)); clear hK K))
            with_reducible refine wpD_g (fun K hK => ?_)
            go_simp
            refine (numbered_n (u := k) _ (by decide) (by omega) (hTr.out.here.below jb) hnz0H.out).mono ?_
            rintro e w5c ⟨rfl, hb⟩
            refine ⟨_, rfl, hb, hK _ _ ?_⟩
            clear hK K
            replace jb := jb.trans (hb.mono jb.size)
            clear hb
            repeat (first | ((with_reducible refine wpD_p (fun K hK => ?_)); go_simp; refine hK _ ?_; clear hK K) | ((with_reducible refine wpD_q (fun K hK => ?_)); go_simp; (first | refine hK _ ?_ | (go_bits; refine hK _ ?_) | (go_bits; go_simp; refine hK _ ?_)); clear hK K))
            with_reducible refine wpD_g (fun K hK => ?_)
            go_simp
            refine ⟨Grew.of_alloc _, hK _ _ ?_⟩
            clear hK K
            repeat (first | ((with_reducible refine wpD_p (fun K hK => ?_)); go_simp; refine hK _ ?_; clear hK K) | ((with_reducible refine wpD_q (fun K hK => ?_)); go_simp; (first | refine hK _ ?_ | (go_bits; refine hK _ ?_) | (go_bits; go_simp; refine hK _ ?_)); clear hK K))
            have jb2 : Below wr.heap.size wr (w5c.alloc (Obj.cells #[.string nh, .string nz1, .string ⟨#[45]⟩, .string nz0] 9)) := jb.trans ((bl_al (bl_refl w5c) _).mono jb.size)
            with_reducible refine wpD_b (fun K hK => ?_)
            go_simp
            refine (tileX_at (ss := [nh, nz1, ⟨#[45]⟩, nz0]) (hM.out.below jb2) (fun g e => Nat.lt_of_lt_of_le (hXbH.out g e).2 jb2.size) (rd4 _ _ _ _ _ _ rfl) (Nat.le_trans kc.out.sz (by decide)) (zs4 kh.out.sz kz1.out.sz (by decide) kz0.out.sz) (by omega) hgl hL.out (by omega)).mono ?_
            rintro e w6 ⟨rfl, hM6, hF6, hB6⟩
            refine ⟨_, rfl, hK _ _ ?_⟩
            clear hK K
            rw [addT_cd gs _ (8, k, 0) kc.out.eq (sd_some kh.out.eq) (sd_some kz1.out.eq) (sd_none hdH.out) (sd_some kz0.out.eq)] at hM6
            have hrow6 := ownsRow_far (ownsRow_below hrow.out jb2) hF6 (by decide)
            have hs6 := hB6.size
            have hj2 := jb2.size
            repeat (first | ((with_reducible refine wpD_p (fun K hK => ?_)); go_simp; refine hK _ ?_; clear hK K) | ((with_reducible refine wpD_q (fun K hK => ?_)); go_simp; (first | refine hK _ ?_ | (go_bits; refine hK _ ?_) | (go_bits; go_simp; refine hK _ ?_)); clear hK K))
            with_reducible refine wpD_g (fun K hK => ?_)
            go_simp
            refine ⟨Grew.of_alloc _, hK _ _ ?_⟩
            clear hK K
            have hal : Below w6.heap.size w6 (w6.alloc (Obj.cells #[.int .i64 (tk : Int)] 2)) := bl_al (bl_refl _) _
            have hrow7 := ownsRow_below hrow6 hal
            refine wpD_append_atN rfl _ _ 25 rfl (w.heap.size + 3) 2 i1 (.int .i64 0) 1 8 Tryd.underlying25 hi' hz0' hz1' hz2' rfl (by decide) (.slice A (k + 1) c) (k + 1) (numsT ts.length (k + 1)) (by go_simp) hrow7 ⟨w6.heap.size, 0, none⟩ 1 1 [.int .i64 (tk : Int)] (by go_simp) rfl (cell_one_new _ _ _) (fun x hx => by simp at hx; subst hx; rfl) (by unfold maxLen; omega) (by omega) (by simp; omega) ?_
            intro v9 w9 hown9 hgrow9 hat9
            obtain ⟨A9, c9, rfl⟩ := ownsRow_form hown9
            have hM8 : MkrX w9 b bm (gs, ts ++ [tF gs] ++ tCs gs l k s k ++ [tlG gs (8, k, 0) [some (2, s, va), some (7, k + 1, 0), none, some (7, k, 0)]]) (fun q => (Value.slice A9 (k + 1 + 1) c9).ownBlock = some q) := by
              have h1 := ((hM6.below hal).clear_ (Y := fun q => (Value.slice A (k + 1) c).ownBlock = some q ∨ (w6.alloc (Obj.cells #[.int .i64 (tk : Int)] 2)).heap.size ≤ q) (fun g e => e)).grown hgrow9 (fun g e => ⟨.inl e, by have := (hXbH.out g e).1; omega⟩)
              refine h1.clear_ (fun g e => .inl ?_)
              rcases hat9 with h2 | h2
              · exact .inl (h2.symm.trans e)
              · rw [h2] at e
                injection e with e
                exact .inr (by omega)
            have hfar8 := ((hfar.out.trans (Far.of_below jb2)).trans hF6).trans (Far.of_below hal)
            have bw8 := ((hbw.out.trans (jb2.mono (show bm ≤ wr.heap.size by omega))).trans hB6).trans (hal.mono (show bm ≤ w6.heap.size by omega))
            have bX8 := ((bX.out.below jb2).far hF6 (by decide) hB6).below hal
            have bC8 := ((bC.out.below jb2).far hF6 (by decide) hB6).below hal
            have bR8 := ((bR.out.below jb2).far hF6 (by decide) hB6).below hal
            have hlo : ∀ g, (Value.slice A (k + 1) c).ownBlock = some g → w.heap.size + 3 ≤ g := fun g e => (hXbH.out g e).1
            have hM9 := Lib.hid hM8
            have hrow9 := Lib.hid (show w9.ownsRow (w.heap.size + 3) 2 1 (.slice A9 (k + 1 + 1) c9) (k + 1 + 1) (numsT ts.length (k + 1 + 1)) by rw [numsT_succ, htkH.out]; exact hown9)
            have hfar9 := Lib.hid (Far.grownHi hfar8 bw8 hgrow9 (fun g e => by have := hlo g e; omega))
            have bw9 := Lib.hid (bw8.grown hgrow9 (by have := bw8.size; omega) (fun g e => by have := hlo g e; omega))
            have bX9 := Lib.hid (bX8.grown hgrow9 (fun e => by have := hlo _ e; omega))
            have bC9 := Lib.hid (bC8.grown hgrow9 (fun e => by have := hlo _ e; omega))
            have bR9 := Lib.hid (bR8.grown hgrow9 (fun e => by have := hlo _ e; omega))
            clear hown9 hgrow9 hat9 hM8 hfar8 bw8 bX8 bC8 bR8 hlo hal hrow7 hrow6 hM6 hF6 hB6 jb jb2 hM hrow bX bC bR hfar hbw hs6 hj2 hXbH hL htkH hwk
            repeat (first | ((with_reducible refine wpD_p (fun K hK => ?_)); go_simp; refine hK _ ?_; clear hK K) | ((with_reducible refine wpD_q (fun K hK => ?_)); go_simp; (first | refine hK _ ?_ | (go_bits; refine hK _ ?_) | (go_bits; go_simp; refine hK _ ?_)); clear hK K))
            with_reducible refine wpD_nil ?_
            go_wp2
            go_roundg (n - (k + 1))
            case measure => omega
            case rel => exact ⟨k + 1, A9, c9, by omega, by go_num, rfl, by rw [tCs, ← List.append_assoc, show tC gs l k s k = tlG gs (8, k, 0) [some (2, s, va), some (7, k + 1, 0), none, some (7, k, 0)] by unfold tC; rw [hcode.out]]; exact hM9, hrow9, bX9, bC9, bR9, hfar9, bw9⟩
          · have hcode := Lib.hid (show ownC l h s k = (0, va, 0) by unfold ownC; rw [if_neg hkh, hgd]; rfl)
            have hkI : ¬ (k : Int) = (h : Int) := by omega
            clear hgd
            go_wp2_with fail
            refine (numbered_n (u := va) _ (by decide) (by omega) hTr.out.here hnaH.out).mono ?_
            rintro e w5 ⟨rfl, jb⟩
            clear x0 lx y0 y1 y2 ly p0 hbb
            replace hM := Lib.hid (hM.out.below jb)
            replace hrow := Lib.hid (ownsRow_below hrow.out jb)
            replace bX := Lib.hid (bX.out.below jb)
            replace bC := Lib.hid (bC.out.below jb)
            replace bR := Lib.hid (bR.out.below jb)
            replace hfar := Lib.hid (hfar.out.trans (Far.of_below jb))
            replace hTr := Lib.hid (hTr.out.below (jb.mono (show bm ≤ wr.heap.size by omega)))
            replace hbw := Lib.hid (hbw.out.trans (jb.mono (show bm ≤ wr.heap.size by omega)))
            clear jb hszl
            obtain ⟨wr, hwr⟩ : ∃ x : World, x = w5 := ⟨_, rfl⟩
            subst hwr
            have hszl := hbw.out.size
            have x0 := bX.out.1.cell 0 _ rfl
            have lx := bX.out.1.lt
            have y0 := bC.out.1.cell 0 _ rfl
            have y1 := bC.out.1.cell 1 _ rfl
            have y2 := bC.out.1.cell 2 _ rfl
            have ly := bC.out.1.lt
            have hTr := Lib.hid (hTH.out.below hbw.out)
            obtain ⟨ncl, hncl⟩ : ∃ s, (⟨#[99, 101, 108, 108]⟩ : ByteArray) ++ decN k = s := ⟨_, rfl⟩
            obtain ⟨k1, hk1⟩ : ∃ k1 : Nat, k + 1 = k1 := ⟨_, rfl⟩
            have hwk : IntKind.i64.wrap ((k : Int) + 1) = (k1 : Int) := by rw [wrapQ (by omega) (by omega)]; omega
            have hk1b : k1 < 13 := by omega
            obtain ⟨nz1, hnz1⟩ : ∃ s, (⟨#[122]⟩ : ByteArray) ++ decN k1 = s := ⟨_, rfl⟩
            obtain ⟨nz0, hnz0⟩ : ∃ s, (⟨#[122]⟩ : ByteArray) ++ decN k = s := ⟨_, rfl⟩
            have kc := Lib.hid (NmT.of (c := (8, k, 0)) (in_tU (by simp <;> omega)) hncl)
            have kz1 := Lib.hid (NmG.of (c := (7, k + 1, 0)) (s := nz1) (in_gU (by simp <;> omega)) (by rw [← hnz1, ← hk1]; rfl))
            clear hk1
            have kz0 := Lib.hid (NmG.of (c := (7, k, 0)) (in_gU (by simp <;> omega)) hnz0)
            have hnclH := Lib.hid hncl
            have hnz1H := Lib.hid hnz1
            have hnz0H := Lib.hid hnz0
            obtain ⟨tk, htk⟩ : ∃ tk : Nat, ts.length + (k + 1) = tk := ⟨_, rfl⟩
            have hL := Lib.hid (show (ts ++ [tF gs] ++ tCs gs l h s k).length = tk by simp only [List.length_append, List.length_cons, List.length_nil, len_tCs]; omega)
            have htkb : tk ≤ 920 := by omega
            have htkH := Lib.hid htk
            clear htk
            have hXb : ∀ g, (Value.slice A (k + 1) c).ownBlock = some g → w.heap.size + 3 ≤ g ∧ g < wr.heap.size := fun g e => hrow.out.lt g e
            have hXbH := Lib.hid hXb
            clear hncl hnz1 hnz0 hXb
            go_wp2_with fail
            have jb : Below wr.heap.size wr wr.drew := bl_dr (bl_refl _)
            refine wp_region_ord [(0, .p), (1, .q), (2, .q), (3, .q), (5, .q), (6, .q), (7, .q), (9, .q), (4, .g), (8, .g), (10, .g), (11, .g), (12, .b), (13, .g), (14, .b), (15, .q)] (by kernel_rfl) (by kernel_rfl) ?_
            simp only [pick, List.filterMap_cons, List.filterMap_nil, List.getElem?_toArray, List.getElem?_cons_zero, List.getElem?_cons_succ, Option.map_some]
            repeat (first | ((with_reducible refine wpD_p (fun K hK => ?_)); go_simp; refine hK _ ?_; clear hK K) | ((with_reducible refine wpD_q (fun K hK => ?_)); go_simp; (first | refine hK _ ?_ | (go_bits; refine hK _ ?_) | (go_bits; go_simp; refine hK _ ?_)); clear hK K))
            with_reducible refine wpD_g (fun K hK => ?_)
            go_simp
            refine (numbered_n (u := k) _ (by decide) (by omega) (hTr.out.here.below jb) hnclH.out).mono ?_
            rintro e w5 ⟨rfl, hb⟩
            refine ⟨_, rfl, hb, hK _ _ ?_⟩
            clear hK K
            replace jb := jb.trans (hb.mono jb.size)
            clear hb
            repeat (first | ((with_reducible refine wpD_p (fun K hK => ?_)); go_simp; refine hK _ ?_; clear hK K) | ((with_reducible refine wpD_q (fun K hK => ?_)); go_simp; (first | refine hK _ ?_ | (go_bits; refine hK _ ?_) | (go_bits; go_simp; refine hK _ ?_)); clear hK K))
            with_reducible refine wpD_g (fun K hK => ?_)
            go_simp
            refine (numbered_n (u := k1) _ (by decide) (by omega) (hTr.out.here.below jb) hnz1H.out).mono ?_
            rintro e w5b ⟨rfl, hb⟩
            refine ⟨_, rfl, hb, hK _ _ ?_⟩
            clear hK K
            replace jb := jb.trans (hb.mono jb.size)
            clear hb
            repeat (first | ((with_reducible refine wpD_p (fun K hK => ?_)); go_simp; refine hK _ ?_; clear hK K) | ((with_reducible refine wpD_q (fun K hK => ?_)); go_simp; (first | refine hK _ ?_ | (go_bits; refine hK _ ?_) | (go_bits; go_simp; refine hK _ ?_)); clear hK K))
            with_reducible refine wpD_g (fun K hK => ?_)
            go_simp
            refine (numbered_n (u := k) _ (by decide) (by omega) (hTr.out.here.below jb) hnz0H.out).mono ?_
            rintro e w5c ⟨rfl, hb⟩
            refine ⟨_, rfl, hb, hK _ _ ?_⟩
            clear hK K
            replace jb := jb.trans (hb.mono jb.size)
            clear hb
            repeat (first | ((with_reducible refine wpD_p (fun K hK => ?_)); go_simp; refine hK _ ?_; clear hK K) | ((with_reducible refine wpD_q (fun K hK => ?_)); go_simp; (first | refine hK _ ?_ | (go_bits; refine hK _ ?_) | (go_bits; go_simp; refine hK _ ?_)); clear hK K))
            with_reducible refine wpD_g (fun K hK => ?_)
            go_simp
            refine ⟨Grew.of_alloc _, hK _ _ ?_⟩
            clear hK K
            repeat (first | ((with_reducible refine wpD_p (fun K hK => ?_)); go_simp; refine hK _ ?_; clear hK K) | ((with_reducible refine wpD_q (fun K hK => ?_)); go_simp; (first | refine hK _ ?_ | (go_bits; refine hK _ ?_) | (go_bits; go_simp; refine hK _ ?_)); clear hK K))
            have jb2 : Below wr.heap.size wr (w5c.alloc (Obj.cells #[.string na, .string nz1, .string ⟨#[45]⟩, .string nz0] 9)) := jb.trans ((bl_al (bl_refl w5c) _).mono jb.size)
            with_reducible refine wpD_b (fun K hK => ?_)
            go_simp
            refine (tileX_at (ss := [na, nz1, ⟨#[45]⟩, nz0]) (hM.out.below jb2) (fun g e => Nat.lt_of_lt_of_le (hXbH.out g e).2 jb2.size) (rd4 _ _ _ _ _ _ rfl) (Nat.le_trans kc.out.sz (by decide)) (zs4 ka.out.sz kz1.out.sz (by decide) kz0.out.sz) (by omega) hgl hL.out (by omega)).mono ?_
            rintro e w6 ⟨rfl, hM6, hF6, hB6⟩
            refine ⟨_, rfl, hK _ _ ?_⟩
            clear hK K
            rw [addT_cd gs _ (8, k, 0) kc.out.eq (sd_some ka.out.eq) (sd_some kz1.out.eq) (sd_none hdH.out) (sd_some kz0.out.eq)] at hM6
            have hrow6 := ownsRow_far (ownsRow_below hrow.out jb2) hF6 (by decide)
            have hs6 := hB6.size
            have hj2 := jb2.size
            repeat (first | ((with_reducible refine wpD_p (fun K hK => ?_)); go_simp; refine hK _ ?_; clear hK K) | ((with_reducible refine wpD_q (fun K hK => ?_)); go_simp; (first | refine hK _ ?_ | (go_bits; refine hK _ ?_) | (go_bits; go_simp; refine hK _ ?_)); clear hK K))
            with_reducible refine wpD_g (fun K hK => ?_)
            go_simp
            refine ⟨Grew.of_alloc _, hK _ _ ?_⟩
            clear hK K
            have hal : Below w6.heap.size w6 (w6.alloc (Obj.cells #[.int .i64 (tk : Int)] 2)) := bl_al (bl_refl _) _
            have hrow7 := ownsRow_below hrow6 hal
            refine wpD_append_atN rfl _ _ 25 rfl (w.heap.size + 3) 2 i1 (.int .i64 0) 1 8 Tryd.underlying25 hi' hz0' hz1' hz2' rfl (by decide) (.slice A (k + 1) c) (k + 1) (numsT ts.length (k + 1)) (by go_simp) hrow7 ⟨w6.heap.size, 0, none⟩ 1 1 [.int .i64 (tk : Int)] (by go_simp) rfl (cell_one_new _ _ _) (fun x hx => by simp at hx; subst hx; rfl) (by unfold maxLen; omega) (by omega) (by simp; omega) ?_
            intro v9 w9 hown9 hgrow9 hat9
            obtain ⟨A9, c9, rfl⟩ := ownsRow_form hown9
            have hM8 : MkrX w9 b bm (gs, ts ++ [tF gs] ++ tCs gs l h s k ++ [tlG gs (8, k, 0) [some (0, va, 0), some (7, k + 1, 0), none, some (7, k, 0)]]) (fun q => (Value.slice A9 (k + 1 + 1) c9).ownBlock = some q) := by
              have h1 := ((hM6.below hal).clear_ (Y := fun q => (Value.slice A (k + 1) c).ownBlock = some q ∨ (w6.alloc (Obj.cells #[.int .i64 (tk : Int)] 2)).heap.size ≤ q) (fun g e => e)).grown hgrow9 (fun g e => ⟨.inl e, by have := (hXbH.out g e).1; omega⟩)
              refine h1.clear_ (fun g e => .inl ?_)
              rcases hat9 with h2 | h2
              · exact .inl (h2.symm.trans e)
              · rw [h2] at e
                injection e with e
                exact .inr (by omega)
            have hfar8 := ((hfar.out.trans (Far.of_below jb2)).trans hF6).trans (Far.of_below hal)
            have bw8 := ((hbw.out.trans (jb2.mono (show bm ≤ wr.heap.size by omega))).trans hB6).trans (hal.mono (show bm ≤ w6.heap.size by omega))
            have bX8 := ((bX.out.below jb2).far hF6 (by decide) hB6).below hal
            have bC8 := ((bC.out.below jb2).far hF6 (by decide) hB6).below hal
            have bR8 := ((bR.out.below jb2).far hF6 (by decide) hB6).below hal
            have hlo : ∀ g, (Value.slice A (k + 1) c).ownBlock = some g → w.heap.size + 3 ≤ g := fun g e => (hXbH.out g e).1
            have hM9 := Lib.hid hM8
            have hrow9 := Lib.hid (show w9.ownsRow (w.heap.size + 3) 2 1 (.slice A9 (k + 1 + 1) c9) (k + 1 + 1) (numsT ts.length (k + 1 + 1)) by rw [numsT_succ, htkH.out]; exact hown9)
            have hfar9 := Lib.hid (Far.grownHi hfar8 bw8 hgrow9 (fun g e => by have := hlo g e; omega))
            have bw9 := Lib.hid (bw8.grown hgrow9 (by have := bw8.size; omega) (fun g e => by have := hlo g e; omega))
            have bX9 := Lib.hid (bX8.grown hgrow9 (fun e => by have := hlo _ e; omega))
            have bC9 := Lib.hid (bC8.grown hgrow9 (fun e => by have := hlo _ e; omega))
            have bR9 := Lib.hid (bR8.grown hgrow9 (fun e => by have := hlo _ e; omega))
            clear hown9 hgrow9 hat9 hM8 hfar8 bw8 bX8 bC8 bR8 hlo hal hrow7 hrow6 hM6 hF6 hB6 jb jb2 hM hrow bX bC bR hfar hbw hs6 hj2 hXbH hL htkH hwk
            repeat (first | ((with_reducible refine wpD_p (fun K hK => ?_)); go_simp; refine hK _ ?_; clear hK K) | ((with_reducible refine wpD_q (fun K hK => ?_)); go_simp; (first | refine hK _ ?_ | (go_bits; refine hK _ ?_) | (go_bits; go_simp; refine hK _ ?_)); clear hK K))
            with_reducible refine wpD_nil ?_
            go_wp2
            go_roundg (n - (k + 1))
            case measure => omega
            case rel => exact ⟨k + 1, A9, c9, by omega, by go_num, rfl, by rw [tCs, ← List.append_assoc, show tC gs l h s k = tlG gs (8, k, 0) [some (0, va, 0), some (7, k + 1, 0), none, some (7, k, 0)] by unfold tC; rw [hcode.out]]; exact hM9, hrow9, bX9, bC9, bR9, hfar9, bw9⟩
        · obtain rfl : k = n := by omega
          obtain ⟨nzk, hnzk⟩ : ∃ s', (⟨#[122]⟩ : ByteArray) ++ decN k = s' := ⟨_, rfl⟩
          have kzk := Lib.hid (NmG.of (c := (7, k, 0)) (in_gU (by simp <;> omega)) hnzk)
          have hnzkH := Lib.hid hnzk
          obtain ⟨tk, htk⟩ : ∃ tk : Nat, ts.length + (k + 1) = tk := ⟨_, rfl⟩
          have hL := Lib.hid (show (ts ++ [tF gs] ++ tCs gs l h s k).length = tk by simp only [List.length_append, List.length_cons, List.length_nil, len_tCs]; omega)
          have htkb : tk ≤ 920 := by omega
          have htkH := Lib.hid htk
          have hXbH := Lib.hid (fun g (e : (Value.slice A (k + 1) c).ownBlock = some g) => hrow.out.lt g e)
          clear hnzk htk
          go_wp2_with fail
          have jb : Below wr.heap.size wr wr.drew := bl_dr (bl_refl _)
          refine wp_region_ord [(0, .p), (1, .q), (2, .q), (3, .q), (4, .g), (5, .g), (6, .b), (7, .g), (8, .b), (9, .q)] (by kernel_rfl) (by kernel_rfl) ?_
          simp only [pick, List.filterMap_cons, List.filterMap_nil, List.getElem?_toArray, List.getElem?_cons_zero, List.getElem?_cons_succ, Option.map_some]
          repeat (first | ((with_reducible refine wpD_p (fun K hK => ?_)); go_simp; refine hK _ ?_; clear hK K) | ((with_reducible refine wpD_q (fun K hK => ?_)); go_simp; (first | refine hK _ ?_ | (go_bits; refine hK _ ?_) | (go_bits; go_simp; refine hK _ ?_)); clear hK K))
          with_reducible refine wpD_g (fun K hK => ?_)
          go_simp
          refine (numbered_n (u := k) _ (by decide) (by omega) (hTr.out.here.below jb) hnzkH.out).mono ?_
          rintro e w5c ⟨rfl, hb⟩
          refine ⟨_, rfl, hb, hK _ _ ?_⟩
          clear hK K
          replace jb := jb.trans (hb.mono jb.size)
          clear hb
          repeat (first | ((with_reducible refine wpD_p (fun K hK => ?_)); go_simp; refine hK _ ?_; clear hK K) | ((with_reducible refine wpD_q (fun K hK => ?_)); go_simp; (first | refine hK _ ?_ | (go_bits; refine hK _ ?_) | (go_bits; go_simp; refine hK _ ?_)); clear hK K))
          with_reducible refine wpD_g (fun K hK => ?_)
          go_simp
          refine ⟨Grew.of_alloc _, hK _ _ ?_⟩
          clear hK K
          repeat (first | ((with_reducible refine wpD_p (fun K hK => ?_)); go_simp; refine hK _ ?_; clear hK K) | ((with_reducible refine wpD_q (fun K hK => ?_)); go_simp; (first | refine hK _ ?_ | (go_bits; refine hK _ ?_) | (go_bits; go_simp; refine hK _ ?_)); clear hK K))
          have jb2 : Below wr.heap.size wr (w5c.alloc (Obj.cells #[.string ⟨#[98, 114]⟩, .string ⟨#[45]⟩, .string ⟨#[45]⟩, .string nzk] 9)) := jb.trans ((bl_al (bl_refl w5c) _).mono jb.size)
          with_reducible refine wpD_b (fun K hK => ?_)
          go_simp
          refine (tileX_at (ss := [⟨#[98, 114]⟩, ⟨#[45]⟩, ⟨#[45]⟩, nzk]) (hM.out.below jb2) (fun g e => Nat.lt_of_lt_of_le (hXbH.out g e).2 jb2.size) (rd4 _ _ _ _ _ _ rfl) (by decide) (zs4 kbr.out.sz (by decide) (by decide) kzk.out.sz) (by omega) hgl hL.out (by omega)).mono ?_
          rintro e w6 ⟨rfl, hM6, hF6, hB6⟩
          refine ⟨_, rfl, hK _ _ ?_⟩
          clear hK K
          rw [addT_cd gs _ (9, 0, 0) kZ.out.eq (sd_some kbr.out.eq) (sd_none hdH.out) (sd_none hdH.out) (sd_some kzk.out.eq)] at hM6
          have hrow6 := ownsRow_far (ownsRow_below hrow.out jb2) hF6 (by decide)
          have hs6 := hB6.size
          have hj2 := jb2.size
          repeat (first | ((with_reducible refine wpD_p (fun K hK => ?_)); go_simp; refine hK _ ?_; clear hK K) | ((with_reducible refine wpD_q (fun K hK => ?_)); go_simp; (first | refine hK _ ?_ | (go_bits; refine hK _ ?_) | (go_bits; go_simp; refine hK _ ?_)); clear hK K))
          with_reducible refine wpD_g (fun K hK => ?_)
          go_simp
          refine ⟨Grew.of_alloc _, hK _ _ ?_⟩
          clear hK K
          have hal : Below w6.heap.size w6 (w6.alloc (Obj.cells #[.int .i64 (tk : Int)] 2)) := bl_al (bl_refl _) _
          have hrow7 := ownsRow_below hrow6 hal
          refine wpD_append_atN rfl _ _ 25 rfl (w.heap.size + 3) 2 i1 (.int .i64 0) 1 8 Tryd.underlying25 hi' hz0' hz1' hz2' rfl (by decide) (.slice A (k + 1) c) (k + 1) (numsT ts.length (k + 1)) (by go_simp) hrow7 ⟨w6.heap.size, 0, none⟩ 1 1 [.int .i64 (tk : Int)] (by go_simp) rfl (cell_one_new _ _ _) (fun x hx => by simp at hx; subst hx; rfl) (by unfold maxLen; omega) (by omega) (by simp; omega) ?_
          intro v9 w9 hown9 hgrow9 hat9
          obtain ⟨A9, c9, rfl⟩ := ownsRow_form hown9
          have hlo : ∀ g, (Value.slice A (k + 1) c).ownBlock = some g → w.heap.size + 3 ≤ g := fun g e => (hXbH.out g e).1
          have hM9 : Hid (Mkr w9 b bm (gs, ts ++ [tF gs] ++ tCs gs l h s k ++ [tZ gs k])) := Lib.hid (by
            have h1 := ((hM6.below hal).clear_ (Y := fun q => (Value.slice A (k + 1) c).ownBlock = some q ∨ (w6.alloc (Obj.cells #[.int .i64 (tk : Int)] 2)).heap.size ≤ q) (fun g e => e)).grown hgrow9 (fun g e => ⟨.inl e, by have := hlo g e; omega⟩)
            exact h1.clear_ (fun g e => e.elim))
          have hrow9 := Lib.hid (show w9.ownsRow (w.heap.size + 3) 2 1 (.slice A9 (k + 1 + 1) c9) (k + 1 + 1) (numsT ts.length (k + 1 + 1)) by rw [numsT_succ, htkH.out]; exact hown9)
          have hfar8 := ((hfar.out.trans (Far.of_below jb2)).trans hF6).trans (Far.of_below hal)
          have bw8 := ((hbw.out.trans (jb2.mono (show bm ≤ wr.heap.size by omega))).trans hB6).trans (hal.mono (show bm ≤ w6.heap.size by omega))
          have hfar9 := Lib.hid (Far.grownHi hfar8 bw8 hgrow9 (fun g e => by have := hlo g e; omega))
          have bw9 := Lib.hid (bw8.grown hgrow9 (by have := bw8.size; omega) (fun g e => by have := hlo g e; omega))
          have bR9 := Lib.hid ((((bR.out.below jb2).far hF6 (by decide) hB6).below hal).grown hgrow9 (fun e => by have := hlo _ e; omega))
          clear hown9 hgrow9 hat9 hfar8 bw8 hlo hal hrow7 hrow6 hM6 hF6 hB6 jb jb2 hM hrow bX bC bR hfar hbw hs6 hj2 hXbH hL x0 lx y0 y1 y2 ly hszl hTr
          repeat (first | ((with_reducible refine wpD_p (fun K hK => ?_)); go_simp; refine hK _ ?_; clear hK K) | ((with_reducible refine wpD_q (fun K hK => ?_)); go_simp; (first | refine hK _ ?_ | (go_bits; refine hK _ ?_) | (go_bits; go_simp; refine hK _ ?_)); clear hK K))
          with_reducible refine wpD_nil ?_
          obtain ⟨m, hm⟩ : ∃ m, k + 1 + 1 = m := ⟨_, rfl⟩
          have hr9 := hrow9.out
          rw [hm] at hr9
          obtain ⟨g9, rfl⟩ : ∃ g, A9 = some ⟨g, 0, none⟩ := by
            rcases hr9.2 with ⟨_, h0⟩ | ⟨g, cap, cur, hv, _⟩
            · omega
            · injection hv with e; exact ⟨g, e⟩
          have hg9 := (hr9.lt g9 rfl).2
          have hrm := Lib.hid hr9
          have hmb : m ≤ 14 := by omega
          have hmH := Lib.hid hm
          have hs9 := bw9.out.size
          have hlR := bR9.out.1.lt
          rw [hm]
          clear hr9 hrow9 hm
          go_wp2
          go_loopg [80] m (fun g i wr => ∃ (j : Nat) (A2 : Option Addr) (c2 : Nat), j + g = m ∧ i = .int .i64 (j : Int) ∧ Hid (wr.ownsRow (w9.heap.size + 1) 95 3 (.slice A2 j c2) j (plCells (seedP ts.length j))) ∧ Hid (Bx wr w9.heap.size [.slice A2 j c2]) ∧ Hid (Below w9.heap.size w9 wr))
          case atStart => exact ⟨0, none, 0, by omega, rfl, Lib.hid (World.ownsRow_nil _ _ _ _), Lib.hid (Bx.made w9 [.slice none 0 0] 36), Lib.hid (bl_al (bl_refl _) _)⟩
          case round =>
            obtain ⟨j, A2, c2, hj, rfl, hrp, bS, hbw⟩ := hrel
            have hszl := hbw.out.size
            have y0 := bS.out.cell 0 _ rfl
            have fS := bS.out.froz 0
            have lS := bS.out.lt
            by_cases hjm : j < m
            · have p0 := (hbw.out.cell (p := ⟨g9, j, none⟩) hg9).trans ((hrm.out.cellAt j (by omega)).trans (numsT_get hjm))
              have lg := Nat.lt_of_lt_of_le hg9 hszl
              obtain ⟨tj, htj⟩ : ∃ tj : Nat, ts.length + j = tj := ⟨_, rfl⟩
              rw [htj] at p0
              have htjH := Lib.hid htj
              obtain ⟨xj, hxj⟩ : ∃ xj : Int, (j : Int) - 1 = xj := ⟨_, rfl⟩
              have hwk : IntKind.i64.wrap ((j : Int) - 1) = xj := by rw [wrapQ (by omega) (by omega)]; exact hxj
              have hxjH := Lib.hid hxj
              clear htj hxj
              go_wp2_with (at_builtin; refine wpList_append_own_at _ rfl _ _ 34 rfl (w9.heap.size + 1) 95 iP (.agg #[.int .i64 0, .int .i64 0, .int .i64 0]) 3 24 Tryd.underlying34 hiP hP0 hP1 hP2 rfl (by decide) (.slice A2 j c2) j (plCells (seedP ts.length j)) rfl (hrp.out.alloc _) ⟨wr.heap.size, 0, none⟩ 1 1 [.int .i64 xj, .int .i64 0, .int .i64 (tj : Int)] rfl rfl (cell_three_newM _ _ _ _ _) (fun x hx => by simp at hx; rcases hx with rfl | rfl | rfl <;> rfl) (by unfold maxLen; omega) (by omega) (by simp; omega) ?_; intro v5 w5 hown5 hgrow5 _ _; obtain ⟨A5, c5, rfl⟩ := ownsRow_form hown5; have bS5 := Lib.hid ((bS.out.below (bl_al (bl_refl _) _)).grown hgrow5 (fun e => by have := (hrp.out.lt _ e).1; omega)); have z0 := bS5.out.cell 0 _ rfl; have zf := bS5.out.froz 0; have zl := bS5.out.lt; have bw5 := Lib.hid ((hbw.out.trans ((bl_al (bl_refl wr) _).mono hszl)).grown hgrow5 (by simp; omega) (fun g e => by have := (hrp.out.lt g e).1; omega)); have hown5H := Lib.hid hown5; clear hown5 hgrow5)
              go_roundg (m - (j + 1))
              case measure => omega
              case rel => exact ⟨j + 1, A5, c5, by omega, by go_num, Lib.hid (ownsRow_setB (by rw [seedP_succ, plCells_snoc, htjH.out, hxjH.out]; exact hown5H.out) (p := ⟨w9.heap.size, 0, none⟩) (Nat.lt_succ_self _) _), Lib.hid (bS5.out.setSame 0 _), Lib.hid (bw5.out.setCell (p := ⟨w9.heap.size, 0, none⟩) (Nat.le_refl _) _)⟩
            · obtain rfl : j = m := by omega
              have bRw := Lib.hid (bR9.out.below hbw.out)
              have z0 := bRw.out.1.cell 0 _ rfl
              have zf := bRw.out.1.froz 0
              have zl := bRw.out.1.lt
              go_wp2
              refine bodyPost_ret (v := .agg #[.slice A2 j c2]) (by simp only [results, Tryd.results54]; go_simp) rfl ?_
              obtain ⟨hb1, Mr, fr, hrr⟩ := bRw.out
              have hll : l.length + 2 = j := by have := hml.out; have := hmH.out; omega
              have hk2 : l.length = k := hml.out
              refine ⟨A2, c2, by rw [hll], ?_, ?_, ?_, ?_⟩
              · have h9 := MkrX.setT (i := 0) (hM9.out.below hbw.out) hrr (by decide) (.slice A2 j c2)
                unfold rowT
                rw [hk2, hgsH.out, ← List.append_assoc, ← List.append_assoc]
                exact h9
              · rw [hll]
                exact ownsRow_lo (ownsRow_setB hrp.out (p := ⟨w.heap.size + 1 + 1, 0, none⟩) (show w.heap.size + 1 + 1 < w9.heap.size + 1 by omega) _) (by omega)
              · intro b' T' M' f' hr' hT'
                exact (Below.heap_setCell _ _ _ _ (show b' ≠ w.heap.size + 1 + 1 by have := hr'.lt; omega)).trans ((hfar9.out.trans (Far.of_below hbw.out)) b' T' M' f' hr' hT')
              · exact (bw9.out.trans (hbw.out.mono (show bm ≤ w9.heap.size by omega))).setCell (p := ⟨w.heap.size + 1 + 1, 0, none⟩) (show bm ≤ w.heap.size + 1 + 1 by omega) _
end Go.Proofs.YtkiamhpapkgboaaDoor
