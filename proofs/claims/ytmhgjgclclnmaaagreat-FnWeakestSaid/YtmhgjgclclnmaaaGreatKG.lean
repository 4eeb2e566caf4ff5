import Derived.Test.YtmhgjgclclnmaaaGreatKS
import Derived.Test.YtmhgjgclclnmaaaGreatKP
import Derived.Test.YtmhgjgclclnmaaaGreatKN
set_option linter.unusedSimpArgs false
set_option linter.unusedVariables false
/- Plain facts: the glues and tiles that the reference draws are valid. -/

namespace Go.Proofs.YtmhgjgclclnmaaaGreat
open Go.RowKit
/-- a letter and a digit -/
def nmD (c : UInt8) (k : Nat) : ByteArray := ⟨#[c, UInt8.ofNat (48 + k)]⟩
theorem nmD_inj {c : UInt8} {i j : Nat} (hi : i < 10) (hj : j < 10) (h : nmD c i = nmD c j) : i = j := by
  unfold nmD at h
  injection h with h
  have h2 : UInt8.ofNat (48 + i) = UInt8.ofNat (48 + j) := by simpa using h
  have h3 := congrArg UInt8.toNat h2
  simp at h3
  omega
theorem nmD_name {c : UInt8} {k : Nat} (hc : c = 103 ∨ c = 116) (hk : k < 10) : isNameB (nmD c k) = true := by
  have : k = 0 ∨ k = 1 ∨ k = 2 ∨ k = 3 ∨ k = 4 ∨ k = 5 ∨ k = 6 ∨ k = 7 ∨ k = 8 ∨ k = 9 := by omega
  rcases hc with rfl | rfl <;> rcases this with rfl | rfl | rfl | rfl | rfl | rfl | rfl | rfl | rfl | rfl <;> decide
theorem nmD_size (c : UInt8) (k : Nat) : (nmD c k).size = 2 := rfl
/-- drawn glues -/
structure DrG (gs : List Gl) (g : Nat) : Prop where
  len : gs.length = g
  at_ : ∀ (k : Nat) (e : Gl), gs[k]? = some e → e.name = nmD 103 k ∧ 1 ≤ e.s ∧ e.s ≤ 2
theorem DrG.nil : DrG [] 0 := ⟨rfl, fun k e h => by simp at h⟩
theorem DrG.snoc {gs : List Gl} {g : Nat} (h : DrG gs g) {s : Int} (h1 : 1 ≤ s) (h2 : s ≤ 2) : DrG (gs ++ [⟨nmD 103 g, s⟩]) (g + 1) := by
  refine ⟨by simp [h.len], fun k e he => ?_⟩
  rcases Nat.lt_or_ge k gs.length with hk | hk
  · rw [List.getElem?_append_left hk] at he
    exact h.at_ k e he
  · have hlt := (List.getElem?_eq_some_iff.1 he).1
    simp at hlt
    obtain rfl : k = gs.length := by omega
    simp at he
    subst he
    rw [h.len]
    exact ⟨rfl, h1, h2⟩
/-- drawn tiles -/
structure DrT (ts : List Ti) (n g : Nat) : Prop where
  len : ts.length = n
  at_ : ∀ (k : Nat) (e : Ti), ts[k]? = some e → e.name = nmD 116 k ∧ e.sides.length = 4 ∧ ∀ v ∈ e.sides, 0 ≤ v ∧ v ≤ (g : Int)
theorem DrT.nil (g : Nat) : DrT [] 0 g := ⟨rfl, fun k e h => by simp at h⟩
theorem DrT.snoc {ts : List Ti} {n g : Nat} (h : DrT ts n g) {l : List Int} (h1 : l.length = 4) (h2 : ∀ v ∈ l, 0 ≤ v ∧ v ≤ (g : Int)) : DrT (ts ++ [⟨nmD 116 n, l⟩]) (n + 1) g := by
  refine ⟨by simp [h.len], fun k e he => ?_⟩
  rcases Nat.lt_or_ge k ts.length with hk | hk
  · rw [List.getElem?_append_left hk] at he
    exact h.at_ k e he
  · have hlt := (List.getElem?_eq_some_iff.1 he).1
    simp at hlt
    obtain rfl : k = ts.length := by omega
    simp at he
    subst he
    rw [h.len]
    exact ⟨rfl, h1, h2⟩
theorem drawn_valid {gs : List Gl} {ts : List Ti} {n g : Nat} (hg : DrG gs g) (ht : DrT ts n g) (h1 : g ≤ 9) (h2 : 1 ≤ n) (h3 : n ≤ 9) : validSetB gs ts = true := by
  refine validSetB_ok (by rw [hg.len]; omega) (by rw [ht.len]; omega) (by rw [ht.len]; omega) (fun j hj => ?_) (fun j hj => ?_)
  · obtain ⟨e, he⟩ : ∃ e, gs[j]? = some e := ⟨_, List.getElem?_eq_getElem hj⟩
    obtain ⟨a, b, c⟩ := hg.at_ j e he
    rw [hg.len] at hj
    rw [okGl_eq he, a, nmD_name (.inl rfl) (by omega), inB_true.2 (by omega), freshG_true he (fun i hi e' he' heq => ?_)]
    · rfl
    · rw [(hg.at_ i e' he').1, a] at heq
      have := nmD_inj (by omega) (by omega) heq
      omega
  · obtain ⟨e, he⟩ : ∃ e, ts[j]? = some e := ⟨_, List.getElem?_eq_getElem hj⟩
    obtain ⟨a, b, c⟩ := ht.at_ j e he
    rw [ht.len] at hj
    rw [okTi_eq he, a, nmD_name (.inr rfl) (by omega), b, decide_eq_true rfl, freshT_true he (fun i hi e' he' heq => ?_), allB_true (fun d hd => ?_)]
    · rfl
    · obtain ⟨v, hv⟩ : ∃ v, e.sides[d]? = some v := ⟨_, List.getElem?_eq_getElem (by omega)⟩
      have := c v (List.mem_of_getElem? hv)
      unfold okSide
      rw [hv, hg.len]
      exact inB_true.2 (by omega)
    · rw [(ht.at_ i e' he').1, a] at heq
      have := nmD_inj (by omega) (by omega) heq
      omega
end Go.Proofs.YtmhgjgclclnmaaaGreat
/- Walk: the reference draws a tile set. -/



namespace Go.Proofs.YtmhgjgclclnmaaaGreat
open Go.RowKit
attribute [local go_sem] BelowBy.cell BelowBy.cell_drew stillUpon givesUpon KpBy.cell KpBy.cell_drew

def DrawSet (p K m : Nat) (w : World) (e : Ending) (w' : World) : Prop := ∃ v gs ts g, e = .returned v ∧ SetOwn w' w.heap.size v gs ts ∧ DrG gs g ∧ DrT ts m g ∧ 1 ≤ g ∧ g ≤ 5 ∧ SrcE w' p (K + 100) ∧ Kp p w w'
theorem cell_one_newD (w : World) (a : Value) (t : TypeId) : ∀ j u, [a][j]? = some u → (w.alloc (Obj.cells #[a] t)).cell? ((⟨w.heap.size, 0, none⟩ : Addr).add j) = some u := by
  intro j u hj
  match j, hj with
  | 0, hj => simp at hj; subst hj; simp [Addr.add]
  | j + 1, hj => simp at hj
theorem digS_size (k : Nat) : (digS k).size = 1 := rfl
theorem nmD_eq (c : UInt8) (k : Nat) : (⟨#[c]⟩ : ByteArray) ++ digS k = nmD c k := ByteArray.ext (by simp [digS, nmD])
set_option maxRecDepth 100000 in
set_option maxHeartbeats 8000000 in
theorem l02Draw_any {p K m : Nat} {w : World} (h : SrcE w p K) (hK : K ≤ 100000) (h1 : 1 ≤ m) (h2 : m ≤ 6) :
    Calls Tryz.prog 85 #[.pointer (some ⟨p, 0, none⟩), .int .i64 (m : Int)] w (DrawSet p K m w) := by
  obtain ⟨iG, hG, hG0, hG1, hG2⟩ := info_parts infoGl
  obtain ⟨iT, hT, hT0, hT1, hT2⟩ := info_parts infoTi
  obtain ⟨iI, hI, hI0, hI1, hI2⟩ := info_parts infoI
  have hlt := h.lt
  have hH := Lib.hid h
  clear h
  have hneR : w.heap.size ≠ p := by omega
  have hneS : w.heap.size + 1 ≠ p := by omega
  go_enter Tryz.func85, Tryz.ntmps85
  go_wp2_with fail
  refine (pickE_any 5 (hH.out.below (by exact bel_)) (by omega) rfl (by omega) (by omega)).mono ?_
  rintro e w1 ⟨v, rfl, hv, hS1, hk1⟩
  have bR : Hid (Bx w1 w.heap.size [.slice none 0 0, .slice none 0 0]) := Lib.hid (((Bx.made w [.slice none 0 0, .slice none 0 0] 27).below (bl_al (bl_refl _) _)).kp hneR hk1)
  have bS : Hid (Bx w1 (w.heap.size + 1) [.slice none 0 0, .slice none 0 0]) := Lib.hid ((by have := Bx.made (w.alloc (Obj.cells #[.slice none 0 0, .slice none 0 0] 27)) [.slice none 0 0, .slice none 0 0] 27; rw [World.size_alloc] at this; exact this : Bx _ _ _).kp hneS hk1)
  have hkA : Hid (Kp p w w1) := Lib.hid ((((Kp.refl p w).al (by omega) _).al (by simp; omega) _).trans hk1)
  have hS : Hid (SrcE w1 p (K + 1)) := Lib.hid hS1
  obtain ⟨g, hg⟩ : ∃ g : Nat, g = v + 1 := ⟨_, rfl⟩
  have hwg : IntKind.i64.wrap (1 + (v : Int)) = (g : Int) := by rw [hg, wrapI (by omega) (by omega)]; omega
  have hg1 : 1 ≤ g := by omega
  have hg5 : g ≤ 5 := by omega
  clear hg hk1 hS1
  go_wp2
  clear hwg
  go_loopg [7] g (fun r x wr => ∃ (k : Nat) (gs : List Gl) (A1 : Option Addr) (c1 : Nat), k + r = g ∧ x = .int .i64 (k : Int) ∧ Hid (DrG gs k) ∧ Hid (wr.ownsRow (w.heap.size + 2) 143 2 (.slice A1 k c1) k (flatC encGl gs)) ∧ Hid (SrcE wr p (K + 1 + k)) ∧ Hid (Kp p w wr) ∧ Hid (Bx wr w.heap.size [.slice none 0 0, .slice none 0 0]) ∧ Hid (Bx wr (w.heap.size + 1) [.slice A1 k c1, .slice none 0 0]))
  case atStart => exact ⟨0, [], none, 0, by omega, rfl, Lib.hid DrG.nil, Lib.hid (World.ownsRow_nil _ _ _ _), hS, hkA, bR, bS⟩
  case round =>
    clear hS hkA bR bS
    obtain ⟨k, gs, A1, c1, hk, rfl, hD, hO, hS, hkA, bR, bS⟩ := hrel
    have x0 := bS.out.cell 0 _ rfl
    have x1 := bS.out.cell 1 _ rfl
    have lS := bS.out.lt
    have lp := hS.out.lt
    by_cases hkg : k < g
    · have hcat : ∀ W : World, (Op.stringOp .add ⟨#[103]⟩ (digS k)).run Tryz.prog W = .ok (.string (nmD 103 k)) W := fun W => by rw [← nmD_eq]; exact run_string_add_sum (P := Tryz.prog) (w := W) ⟨#[103]⟩ (digS k) (by rw [digS_size]; decide)
      go_wp2
      refine wp_region_ordK (p := p) [(0, .q), (1, .q), (2, .q), (5, .q), (3, .g), (4, .q), (6, .g), (7, .q), (8, .q), (9, .g), (10, .b), (11, .q), (12, .b)] (by kernel_rfl) (by kernel_rfl) ?_
      simp only [pick, List.filterMap_cons, List.filterMap_nil, List.getElem?_toArray, List.getElem?_cons_zero, List.getElem?_cons_succ, Option.map_some]
      repeat (first | ((with_reducible refine wpK_p (fun K hK => ?_)); go_simp; refine hK _ ?_; clear hK K) | ((with_reducible refine wpK_q (fun K hK => ?_)); go_simp; (first | refine hK _ ?_ | (go_bits; refine hK _ ?_) | (go_bits; go_simp; refine hK _ ?_)); clear hK K))
      with_reducible refine wpK_g (fun K hK => ?_)
      go_simp
      go_at_call 136
      refine (lDecimal_dig (k := k) _ (by omega)).mono ?_
      rintro e w2 ⟨rfl, hb2⟩
      refine ⟨_, rfl, (Kp.refl _ _).then lp hb2, hK _ _ ?_⟩
      clear hK K
      have hB2 : Below wr.heap.size wr w2 := (bl_dr (bl_refl wr)).trans (hb2.mono (by simp))
      have hS2 := hS.out.below hB2
      have hk2 := Lib.hid ((Kp.refl p wr).then lp hB2)
      have hO2 := Lib.hid (ownsRow_below hO.out hB2)
      clear hb2 hB2 hS x0 x1
      repeat (first | ((with_reducible refine wpK_p (fun K hK => ?_)); go_simp; refine hK _ ?_; clear hK K) | ((with_reducible refine wpK_q (fun K hK => ?_)); go_simp; (first | refine hK _ ?_ | (go_bits; refine hK _ ?_) | (go_bits; go_simp; refine hK _ ?_)); clear hK K))
      with_reducible refine wpK_g (fun K hK => ?_)
      go_simp
      go_at_call 43
      refine (pickE_any 2 hS2 (by omega) rfl (by omega) (by omega)).mono ?_
      rintro e w3 ⟨v3, rfl, hv3, hS3, hk3⟩
      refine ⟨_, rfl, hk3, hK _ _ ?_⟩
      clear hK K
      have hw3 : IntKind.i64.wrap (1 + (v3 : Int)) = 1 + (v3 : Int) := wrapI (by omega) (by omega)
      have hk3w := Lib.hid (hk2.out.trans hk3)
      have hO3 := Lib.hid (Own_kp hO2.out (by omega) hk3)
      have bR3 := Lib.hid (bR.out.kp hneR hk3w.out)
      have bS3 := Lib.hid (bS.out.kp hneS hk3w.out)
      have hS3 := Lib.hid hS3
      have lp3 := hS3.out.lt
      have l3 : w.heap.size + 2 ≤ w3.heap.size := by have := bS3.out.lt; omega
      clear hS2 hk2 hO2 hO bR bS hk3 lS lp
      repeat (first | ((with_reducible refine wpK_p (fun K hK => ?_)); go_simp; refine hK _ ?_; clear hK K) | ((with_reducible refine wpK_q (fun K hK => ?_)); go_simp; (first | refine hK _ ?_ | (go_bits; refine hK _ ?_) | (go_bits; go_simp; refine hK _ ?_)); clear hK K))
      with_reducible refine wpK_g (fun K hK => ?_)
      go_simp
      refine ⟨(Kp.refl _ _).al (by omega) _, hK _ _ ?_⟩
      clear hK K
      have hA3 : Below w3.heap.size w3 (w3.alloc (Obj.cells #[.string (nmD 103 k), .int .i64 (1 + (v3 : Int))] 143)) := bl_al (bl_refl _) _
      refine wpK_append_at rfl _ _ 24 rfl (w.heap.size + 2) 143 iG (.agg #[.string ByteArray.empty, .int .i64 0]) 2 24 Tryz.underlying24 hG hG0 hG1 hG2 rfl (by decide) (.slice A1 k c1) k (flatC encGl gs) (by go_simp) (ownsRow_below hO3.out hA3) ⟨w3.heap.size, 0, none⟩ 1 1 [.string (nmD 103 k), .int .i64 (1 + (v3 : Int))] (by go_simp) rfl (cell_two_newN _ _ _ _) (fun x hx => by simp at hx; rcases hx with rfl | rfl <;> rfl) (by unfold maxLen; omega) (by omega) (by simp; omega) ?_
      intro v5 w5 hown5 hgrow5 _
      obtain ⟨A5, c5, rfl⟩ := ownsRow_form hown5
      have hbX : Below (w.heap.size + 2) w3 w5 := (hA3.mono l3).grown hgrow5 (by simp; omega) (fun g e => (hO3.out.lt g e).1)
      have bR5 := Lib.hid (bR3.out.belowB (by omega) hbX)
      have bS5 := Lib.hid (bS3.out.belowB (by omega) hbX)
      have hS5 := Lib.hid (hS3.out.belowB (by omega) hbX)
      have hk5 := Lib.hid ((hkA.out.trans hk3w.out).thenB hlt (hbX.mono (by omega)))
      have hown5H := Lib.hid (show w5.ownsRow (w.heap.size + 2) 143 2 (.slice A5 (k + 1) c5) (k + 1) (flatC encGl (gs ++ [⟨nmD 103 k, 1 + (v3 : Int)⟩])) by rw [flatC_snoc]; exact hown5)
      have f5 := bS5.out.froz 0
      have y5 := bS5.out.cell 0 _ rfl
      have l5 := bS5.out.lt
      clear hown5 hgrow5 hbX hA3 bR3 bS3 hS3 hO3 hk3w hkA
      repeat (first | ((with_reducible refine wpK_p (fun K hK => ?_)); go_simp; refine hK _ ?_; clear hK K) | ((with_reducible refine wpK_q (fun K hK => ?_)); go_simp; (first | refine hK _ ?_ | (go_bits; refine hK _ ?_) | (go_bits; go_simp; refine hK _ ?_)); clear hK K))
      with_reducible refine wpK_b (fun K hK => ?_)
      go_simp
      refine hK _ _ ?_
      clear hK K
      repeat (first | ((with_reducible refine wpK_p (fun K hK => ?_)); go_simp; refine hK _ ?_; clear hK K) | ((with_reducible refine wpK_q (fun K hK => ?_)); go_simp; (first | refine hK _ ?_ | (go_bits; refine hK _ ?_) | (go_bits; go_simp; refine hK _ ?_)); clear hK K))
      with_reducible refine wpK_nil ?_
      go_wp2
      go_roundg (g - (k + 1))
      case measure => omega
      case rel =>
        exact ⟨k + 1, _, A5, c5, by omega, by go_num, Lib.hid (hD.out.snoc (s := 1 + (v3 : Int)) (by omega) (by omega)), Lib.hid (ownsRow_setB hown5H.out (by simp) _), Lib.hid ((hS5.out.belowB (B := w.heap.size + 1) (by omega) ((Below.refl _ _).setCell (p := ⟨w.heap.size + 1, 0, none⟩) (Nat.le_refl _) _)).more (by omega)), Lib.hid (hk5.out.thenB hlt ((Below.refl _ _).setCell (p := ⟨w.heap.size + 1, 0, none⟩) (Nat.le_succ _) _)), Lib.hid (bR5.out.setOther (by simp) _), Lib.hid (bS5.out.setSame 0 _)⟩
    · obtain rfl : g = k := by omega
      have la : w.heap.size + 2 ≤ wr.heap.size := by omega
      obtain ⟨wa, hwa⟩ : ∃ wa : World, wa = wr := ⟨_, rfl⟩
      subst hwa
      have hGl := Lib.hid (fun (b : Nat) (e : (Value.slice A1 g c1).ownBlock = some b) => (hO.out.lt b e).2)
      clear x0 x1 lS lp hkg
      go_wp2
      go_loopg [8] m (fun r x wr => ∃ (k : Nat) (ts : List Ti) (us : List Value) (A2 : Option Addr) (c2 : Nat), k + r = m ∧ x = .int .i64 (k : Int) ∧ Hid (DrT ts k g) ∧ Hid (us.length = k) ∧ Hid (OwnT wr wa.heap.size 145 2 (.slice A2 k c2) us ts) ∧ Hid (wr.ownsRow (w.heap.size + 2) 143 2 (.slice A1 g c1) g (flatC encGl gs)) ∧ Hid (SrcE wr p (K + 1 + g + 8 * k)) ∧ Hid (Kp p w wr) ∧ Hid (Bx wr w.heap.size [.slice none 0 0, .slice none 0 0]) ∧ Hid (Bx wr (w.heap.size + 1) [.slice A1 g c1, .slice A2 k c2]) ∧ wa.heap.size ≤ wr.heap.size)
      case atStart => exact ⟨0, [], [], none, 0, by omega, rfl, Lib.hid (DrT.nil g), Lib.hid rfl, Lib.hid (OwnT.nil _ _ _ _), hO, hS, hkA, bR, bS, Nat.le_refl _⟩
      case round =>
        clear hO hS hkA bR bS
        obtain ⟨k, ts, us, A2, c2, hk, rfl, hDT, hul, hOT, hO, hS, hkA, bR, bS, lwa⟩ := hrel
        by_cases hkm : k < m
        · have hcat : ∀ W : World, (Op.stringOp .add ⟨#[116]⟩ (digS k)).run Tryz.prog W = .ok (.string (nmD 116 k)) W := fun W => by rw [← nmD_eq]; exact run_string_add_sum (P := Tryz.prog) (w := W) ⟨#[116]⟩ (digS k) (by rw [digS_size]; decide)
          go_wp2_with fail
          refine (lDecimal_dig (k := k) _ (by omega)).mono ?_
          rintro e w2 ⟨rfl, hb2⟩
          have hOT2 := Lib.hid (hOT.out.below hb2)
          have hO2 := Lib.hid (ownsRow_below hO.out hb2)
          have hS2 := Lib.hid (hS.out.below hb2)
          have hk2 := Lib.hid (hkA.out.then hlt hb2)
          have bR2 := Lib.hid (bR.out.below hb2)
          have bS2 := Lib.hid (bS.out.below hb2)
          have lw2 := Nat.le_trans lwa hb2.size
          have lp2 := hS2.out.lt
          have hne2 : w2.heap.size ≠ p := by omega
          clear hb2 hOT hO hS hkA bR bS lwa
          go_wp2
          clear hcat
          go_loopg [10] 4 (fun r x wr => ∃ (d : Nat) (l : List Int) (A3 : Option Addr) (c3 : Nat), d + r = 4 ∧ x = .int .i64 (d : Int) ∧ Hid (l.length = d) ∧ Hid (∀ v ∈ l, 0 ≤ v ∧ v ≤ (g : Int)) ∧ Hid (wr.ownsRow (w2.heap.size + 1) 2 1 (.slice A3 d c3) d (flatC encI l)) ∧ Hid (SrcE wr p (K + 1 + g + 8 * k + 2 * d)) ∧ Hid (Kp p w2 wr) ∧ Hid (Bx wr w2.heap.size [.string (nmD 116 k), .slice A3 d c3]))
          case atStart => exact ⟨0, [], none, 0, by omega, rfl, Lib.hid rfl, Lib.hid (fun v hv => by simp at hv), Lib.hid (World.ownsRow_nil _ _ _ _), Lib.hid (hS2.out.below (bl_al (bl_refl _) _)), Lib.hid ((Kp.refl _ _).al (by omega) _), Lib.hid (Bx.made w2 [.string (nmD 116 k), .slice none 0 0] 145)⟩
          case round =>
            obtain ⟨d, l, A3, c3, hd, rfl, hll, hlv, hOi, hSi, hki, bQ⟩ := hrel
            by_cases hd4 : d < 4
            · have lpi := hSi.out.lt
              go_wp2_with fail
              refine (oneE_any 3 hSi.out (by omega) rfl (by omega) (by omega)).mono ?_
              rintro e w3 ⟨vb, rfl, hS3, hk3⟩
              have hO3 := Lib.hid (Own_kp hOi.out (by omega) hk3)
              have bQ3 := Lib.hid (bQ.out.kp hne2 hk3)
              have hk3w := Lib.hid (hki.out.trans hk3)
              have hS3 := Lib.hid hS3
              have q1 := bQ3.out.cell 1 _ rfl
              have qf := bQ3.out.froz 1
              have ql := bQ3.out.lt
              have lp3 := hS3.out.lt
              clear hOi bQ hki hSi hk3 lpi
              cases vb
              · go_wp2
                refine wp_region_ordK (p := p) [(0, .q), (1, .q), (2, .q), (3, .q), (4, .g), (5, .q), (6, .g), (7, .b), (8, .q), (9, .b)] (by kernel_rfl) (by kernel_rfl) ?_
                simp only [pick, List.filterMap_cons, List.filterMap_nil, List.getElem?_toArray, List.getElem?_cons_zero, List.getElem?_cons_succ, Option.map_some]
                repeat (first | ((with_reducible refine wpK_p (fun K hK => ?_)); go_simp; refine hK _ ?_; clear hK K) | ((with_reducible refine wpK_q (fun K hK => ?_)); go_simp; (first | refine hK _ ?_ | (go_bits; refine hK _ ?_) | (go_bits; go_simp; refine hK _ ?_)); clear hK K))
                with_reducible refine wpK_g (fun K hK => ?_)
                go_simp
                go_at_call 43
                refine (pickE_any g (hS3.out.below (bl_dr (bl_refl _))) (by omega) rfl (by omega) (by omega)).mono ?_
                rintro e w4 ⟨v4, rfl, hv4, hS4, hk4⟩
                refine ⟨_, rfl, hk4, hK _ _ ?_⟩
                clear hK K
                have hk4' := (Kp.refl p w3).drew.trans hk4
                have hw4 : IntKind.i64.wrap (1 + (v4 : Int)) = 1 + (v4 : Int) := wrapI (by omega) (by omega)
                have hO4 := Lib.hid (Own_kp hO3.out (by omega) hk4')
                have bQ4 := Lib.hid (bQ3.out.kp hne2 hk4')
                have hk4w := Lib.hid (hk3w.out.trans hk4')
                have hS4 := Lib.hid hS4
                have lp4 := hS4.out.lt
                have l4 := bQ4.out.lt
                clear hO3 bQ3 hk3w hS3 hk4 hk4' q1 qf ql
                repeat (first | ((with_reducible refine wpK_p (fun K hK => ?_)); go_simp; refine hK _ ?_; clear hK K) | ((with_reducible refine wpK_q (fun K hK => ?_)); go_simp; (first | refine hK _ ?_ | (go_bits; refine hK _ ?_) | (go_bits; go_simp; refine hK _ ?_)); clear hK K))
                with_reducible refine wpK_g (fun K hK => ?_)
                go_simp
                refine ⟨(Kp.refl _ _).al (by omega) _, hK _ _ ?_⟩
                clear hK K
                have hA4 : Below w4.heap.size w4 (w4.alloc (Obj.cells #[.int .i64 (1 + (v4 : Int))] 2)) := bl_al (bl_refl _) _
                refine wpK_append_at rfl _ _ 33 rfl (w2.heap.size + 1) 2 iI (.int .i64 0) 1 8 Tryz.underlying33 hI hI0 hI1 hI2 rfl (by decide) (.slice A3 d c3) d (flatC encI l) (by go_simp) (ownsRow_below hO4.out hA4) ⟨w4.heap.size, 0, none⟩ 1 1 [.int .i64 (1 + (v4 : Int))] (by go_simp) rfl (cell_one_newD _ _ _) (fun x hx => by simp at hx; subst hx; rfl) (by unfold maxLen; omega) (by omega) (by simp; omega) ?_
                intro v5 w5 hown5 hgrow5 _
                obtain ⟨A5, c5, rfl⟩ := ownsRow_form hown5
                have hbX : Below (w2.heap.size + 1) w4 w5 := (hA4.mono (by omega)).grown hgrow5 (by simp; omega) (fun g e => (hO4.out.lt g e).1)
                have bQ5 := Lib.hid (bQ4.out.belowB (by omega) hbX)
                have hS5 := Lib.hid (hS4.out.belowB (by omega) hbX)
                have hk5 := Lib.hid (hk4w.out.thenB lp2 (hbX.mono (by omega)))
                have hown5H := Lib.hid (show w5.ownsRow (w2.heap.size + 1) 2 1 (.slice A5 (d + 1) c5) (d + 1) (flatC encI (l ++ [1 + (v4 : Int)])) by rw [flatC_snoc]; exact hown5)
                have f5 := bQ5.out.froz 1
                have y5 := bQ5.out.cell 1 _ rfl
                have l5 := bQ5.out.lt
                clear hown5 hgrow5 hbX hA4 bQ4 hS4 hO4 hk4w
                repeat (first | ((with_reducible refine wpK_p (fun K hK => ?_)); go_simp; refine hK _ ?_; clear hK K) | ((with_reducible refine wpK_q (fun K hK => ?_)); go_simp; (first | refine hK _ ?_ | (go_bits; refine hK _ ?_) | (go_bits; go_simp; refine hK _ ?_)); clear hK K))
                with_reducible refine wpK_b (fun K hK => ?_)
                go_simp
                refine hK _ _ ?_
                clear hK K
                repeat (first | ((with_reducible refine wpK_p (fun K hK => ?_)); go_simp; refine hK _ ?_; clear hK K) | ((with_reducible refine wpK_q (fun K hK => ?_)); go_simp; (first | refine hK _ ?_ | (go_bits; refine hK _ ?_) | (go_bits; go_simp; refine hK _ ?_)); clear hK K))
                with_reducible refine wpK_nil ?_
                go_wp2
                go_roundg (4 - (d + 1))
                case measure => omega
                case rel =>
                  exact ⟨d + 1, _, A5, c5, by omega, by go_num, Lib.hid (by rw [List.length_append, hll.out]; rfl), Lib.hid (fun v hv => by rcases List.mem_append.1 hv with hv | hv; exact hlv.out v hv; simp at hv; omega), Lib.hid (ownsRow_setB hown5H.out (by simp) _), Lib.hid ((hS5.out.belowB (B := w2.heap.size) (by omega) ((Below.refl _ _).setCell (p := ⟨w2.heap.size, 1, none⟩) (Nat.le_refl _) _)).more (by omega)), Lib.hid (hk5.out.thenB lp2 ((Below.refl _ _).setCell (p := ⟨w2.heap.size, 1, none⟩) (Nat.le_refl _) _)), Lib.hid (bQ5.out.setSame 1 _)⟩
              · have hA3 : Below w3.heap.size w3 (w3.alloc (Obj.cells #[.int .i64 0] 2)) := bl_al (bl_refl _) _
                go_wp2_with (at_builtin; refine wpList_append_own_at _ rfl _ _ 33 rfl (w2.heap.size + 1) 2 iI (.int .i64 0) 1 8 Tryz.underlying33 hI hI0 hI1 hI2 rfl (by decide) (.slice A3 d c3) d (flatC encI l) rfl (ownsRow_below hO3.out hA3) ⟨w3.heap.size, 0, none⟩ 1 1 [.int .i64 0] rfl rfl (cell_one_newD _ _ _) (fun x hx => by simp at hx; subst hx; rfl) (by unfold maxLen; omega) (by omega) (by simp; omega) ?_; intro v5 w5 hown5 hgrow5 _ _; obtain ⟨A5, c5, rfl⟩ := ownsRow_form hown5; have hbX : Below (w2.heap.size + 1) w3 w5 := (hA3.mono (by omega)).grown hgrow5 (by simp; omega) (fun g e => (hO3.out.lt g e).1); have bQ5 := Lib.hid (bQ3.out.belowB (by omega) hbX); have hS5 := Lib.hid (hS3.out.belowB (by omega) hbX); have hk5 := Lib.hid (hk3w.out.thenB lp2 (hbX.mono (by omega))); have hown5H := Lib.hid (show w5.ownsRow (w2.heap.size + 1) 2 1 (.slice A5 (d + 1) c5) (d + 1) (flatC encI (l ++ [0])) by rw [flatC_snoc]; exact hown5); have f5 := bQ5.out.froz 1; have y5 := bQ5.out.cell 1 _ rfl; have l5 := bQ5.out.lt; clear hown5 hgrow5 hbX)
                go_roundg (4 - (d + 1))
                case measure => omega
                case rel =>
                  exact ⟨d + 1, _, A5, c5, by omega, by go_num, Lib.hid (by rw [List.length_append, hll.out]; rfl), Lib.hid (fun v hv => by rcases List.mem_append.1 hv with hv | hv; exact hlv.out v hv; simp at hv; omega), Lib.hid (ownsRow_setB hown5H.out (by simp) _), Lib.hid ((hS5.out.belowB (B := w2.heap.size) (by omega) ((Below.refl _ _).setCell (p := ⟨w2.heap.size, 1, none⟩) (Nat.le_refl _) _)).more (by omega)), Lib.hid (hk5.out.thenB lp2 ((Below.refl _ _).setCell (p := ⟨w2.heap.size, 1, none⟩) (Nat.le_refl _) _)), Lib.hid (bQ5.out.setSame 1 _)⟩
            · obtain rfl : d = 4 := by omega
              have hOT6 := Lib.hid (hOT2.out.kp (by omega) hki.out)
              have hO6 := Lib.hid (Own_kp hO2.out (by omega) hki.out)
              have bR6 := Lib.hid (bR2.out.kp hneR hki.out)
              have bS6 := Lib.hid (bS2.out.kp hneS hki.out)
              have hk6 := Lib.hid (hk2.out.trans hki.out)
              have hxl := Lib.hid (fun (b : Nat) (e : (Value.slice A2 k c2).ownBlock = some b ∨ ∃ (j : Nat) (u : Value), us[j]? = some u ∧ u.ownBlock = some b) => show b < w2.heap.size from by
                rcases e with e | ⟨j, u, hu, e⟩
                · exact (hOT2.out.lt b e).2
                · exact (hOT2.out.ltIn hu b e).2)
              have t0 := bQ.out.cell 0 _ rfl
              have t1 := bQ.out.cell 1 _ rfl
              have tl := bQ.out.lt
              have z1 := bS6.out.cell 1 _ rfl
              have zl := bS6.out.lt
              have hx := Lib.hid (show wr.ownsRow wa.heap.size 2 1 (.slice A3 4 c3) (⟨nmD 116 k, l⟩ : Ti).sides.length (flatC encI (⟨nmD 116 k, l⟩ : Ti).sides) by show wr.ownsRow wa.heap.size 2 1 (.slice A3 4 c3) l.length (flatC encI l); rw [hll.out]; exact ownsRow_lo hOi.out (by omega))
              have hA6 : Below wr.heap.size wr (wr.alloc (Obj.cells #[.string (nmD 116 k), .slice A3 4 c3] 145)) := bl_al (bl_refl _) _
              have lwr : w2.heap.size < wr.heap.size := tl
              clear hOT2 hO2 bR2 bS2 hk2 hS2
              go_wp2_with (at_builtin; refine wpList_append_own_at _ rfl _ _ 25 rfl wa.heap.size 145 iT (.agg #[.string ByteArray.empty, .slice none 0 0]) 2 40 Tryz.underlying25 hT hT0 hT1 hT2 rfl (by decide) (.slice A2 k c2) k (flatC encNU ((ts.map Ti.name).zip us)) rfl (by have := (hOT6.out.below hA6).outer; rwa [hul.out] at this) ⟨wr.heap.size, 0, none⟩ 1 1 [.string (nmD 116 k), .slice A3 4 c3] rfl rfl (cell_two_newN _ _ _ _) (fun x hx => by simp at hx; rcases hx with rfl | rfl <;> rfl) (by unfold maxLen; omega) (by omega) (by simp; omega) ?_; intro v7 w7 hown7 hgrow7 _ hat7; obtain ⟨A7, c7, rfl⟩ := ownsRow_form hown7; have hP := Lib.hid ((hOT6.out.below hA6).push (t := ⟨nmD 116 k, l⟩) hul.out (ownsRow_below hx.out hA6) (fun b hb => by have h1 := (hOi.out.lt b hb).1; exact ⟨fun e' => by have := hxl.out b (.inl e'); omega, fun j u hu e' => by have := hxl.out b (.inr ⟨j, u, hu, e'⟩); omega⟩) hown7 hgrow7 hat7); have hbX : Below wa.heap.size wr w7 := (hA6.mono (by omega)).grown hgrow7 (by simp; omega) (fun b e => (hOT6.out.lt b e).1); have bR7 := Lib.hid (bR6.out.belowB (by omega) hbX); have bS7 := Lib.hid (bS6.out.belowB (by omega) hbX); have hO7 := Lib.hid (ownsRow_bB hO6.out hGl.out hbX); have hS7 := Lib.hid (hSi.out.belowB (by omega) hbX); have hk7 := Lib.hid (hk6.out.thenB hlt (hbX.mono (by omega))); have f7 := bS7.out.froz 1; have y7 := bS7.out.cell 1 _ rfl; have l7 := bS7.out.lt; have lw7 := hbX.size; clear hown7 hgrow7 hat7 hbX)
              go_roundg (m - (k + 1))
              case measure => omega
              case rel =>
                exact ⟨k + 1, ts ++ [⟨nmD 116 k, l⟩], us ++ [.slice A3 4 c3], A7, c7, by omega, by go_num, Lib.hid (hDT.out.snoc hll.out hlv.out), Lib.hid (by rw [List.length_append, hul.out]; rfl), Lib.hid (hP.out.setBelow (by simp; omega) _), Lib.hid (ownsRow_setB hO7.out (by simp) _), Lib.hid ((hS7.out.belowB (B := w.heap.size + 1) (by omega) ((Below.refl _ _).setCell (p := ⟨w.heap.size + 1, 1, none⟩) (Nat.le_refl _) _)).more (by omega)), Lib.hid (hk7.out.thenB hlt ((Below.refl _ _).setCell (p := ⟨w.heap.size + 1, 1, none⟩) (Nat.le_succ _) _)), Lib.hid (bR7.out.setOther (by simp) _), Lib.hid (bS7.out.setSame 1 _), by simp; omega⟩
        · obtain rfl : k = m := by omega
          have x0 := bS.out.cell 0 _ rfl
          have x1 := bS.out.cell 1 _ rfl
          have lS := bS.out.lt
          have r0 := bR.out.cell 0 _ rfl
          have r1 := bR.out.cell 1 _ rfl
          have rf0 := bR.out.froz 0
          have rf1 := bR.out.froz 1
          have lR := bR.out.lt
          go_wp2
          refine bodyPost_ret (v := .agg #[.slice A1 g c1, .slice A2 k c2]) (by simp only [results, Tryz.results85]; go_simp) rfl ?_
          refine ⟨_, gs, ts, g, rfl, ⟨_, _, us, rfl, ?_, ?_⟩, hD.out, hDT.out, hg1, hg5, ?_, ?_⟩
          · rw [hD.out.len]
            exact ownsRow_lo (ownsRow_setB (ownsRow_setB hO.out (by simp) _) (by simp) _) (by omega)
          · exact ((hOT.out.setBelow (by simp; omega) _).setBelow (by simp; omega) _).rebase (by omega)
          · exact (hS.out.belowB (B := w.heap.size) (by omega) (((Below.refl _ _).setCell (p := ⟨w.heap.size, 0, none⟩) (Nat.le_refl _) _).setCell (p := ⟨w.heap.size, 1, none⟩) (Nat.le_refl _) _)).more (by omega)
          · exact hkA.out.thenB hlt (((Below.refl _ _).setCell (p := ⟨w.heap.size, 0, none⟩) (Nat.le_refl _) _).setCell (p := ⟨w.heap.size, 1, none⟩) (Nat.le_refl _) _)
end Go.Proofs.YtmhgjgclclnmaaaGreat
