import Derived.Test.YtmhgjgclclnmaaaGreatAt3
import Derived.Test.YtmhgjgclclnmaaaGreatKN
import Derived.Test.YtmhgjgclclnmaaaGreatOrd
import Derived.Test.YtmhgjgclclnmaaaGreatKP
import Derived.Test.YtmhgjgclclnmaaaGreatKG
import Derived.Test.YtmhgjgclclnmaaaGreatKV
import Derived.Test.YtmhgjgclclnmaaaGreatPlC
set_option linter.unusedSimpArgs false
set_option linter.unusedVariables false
/- Plain facts: drawn assemblies. -/

namespace Go.Proofs.YtmhgjgclclnmaaaGreat
open Go.RowKit
/-- an assembly of at most n tiles with numbers below m, all within B -/
structure DrA (xs : List Pl) (m n B : Nat) : Prop where
  len : xs.length ≤ n
  at_ : ∀ e ∈ xs, (-(B : Int) ≤ e.x ∧ e.x ≤ B) ∧ (-(B : Int) ≤ e.y ∧ e.y ≤ B) ∧ ∃ t : Nat, e.t = t ∧ t < m
  srt : xs.Pairwise fun d e => lessPt d.x d.y e.x e.y = true
theorem DrA.nil (m n B : Nat) : DrA [] m n B := ⟨by simp, fun e he => by simp at he, List.Pairwise.nil⟩
theorem DrA.more {xs : List Pl} {m n B n' B' : Nat} (h : DrA xs m n B) (hn : n ≤ n') (hB : B ≤ B') : DrA xs m n' B' :=
  ⟨Nat.le_trans h.len hn, fun e he => by obtain ⟨⟨a, b⟩, ⟨c, d⟩, t⟩ := h.at_ e he; exact ⟨⟨by omega, by omega⟩, ⟨by omega, by omega⟩, t⟩, h.srt⟩
theorem DrA.one {m n B : Nat} {x y : Int} {t : Nat} (ht : t < m) (hn : 1 ≤ n) (hx : -(B : Int) ≤ x ∧ x ≤ B) (hy : -(B : Int) ≤ y ∧ y ≤ B) : DrA [⟨x, y, t⟩] m n B :=
  ⟨by simpa using hn, fun e he => by simp at he; subst he; exact ⟨hx, hy, t, rfl, ht⟩, by simp⟩
theorem lessPt_no {a b c d : Int} (h : lessPt a b c d = true) : lessPt c d a b = false := by
  cases hh : lessPt c d a b with
  | false => rfl
  | true => have h1 := (lessPt_iff _ _ _ _).1 h; have h2 := (lessPt_iff _ _ _ _).1 hh; omega
theorem lessPt_or {a b c d : Int} (h : lessPt a b c d = false) (hne : ¬ (a = c ∧ b = d)) : lessPt c d a b = true := by
  have h1 : ¬ (b < d ∨ (b = d ∧ a < c)) := by rw [← lessPt_iff, h]; simp
  rw [lessPt_iff]; omega
/-- the place of a new point -/
theorem place_new : ∀ (xs : List Pl) (x y : Int), xs.Pairwise (fun d e => lessPt d.x d.y e.x e.y = true) → (∀ e ∈ xs, ¬ (e.x = x ∧ e.y = y)) → ∃ j, j ≤ xs.length ∧ (∀ e ∈ xs.take j, lessPt e.x e.y x y = true) ∧ ∀ e ∈ xs.drop j, lessPt x y e.x e.y = true
  | [], x, y, _, _ => ⟨0, by simp, by simp, by simp⟩
  | a :: l, x, y, hs, hne => by
    obtain ⟨h1, h2⟩ := List.pairwise_cons.1 hs
    cases hl : lessPt a.x a.y x y with
    | false =>
      have ha := lessPt_or hl (hne a (by simp))
      refine ⟨0, by simp, by simp, fun e he => ?_⟩
      simp only [List.drop_zero, List.mem_cons] at he
      rcases he with rfl | he
      · exact ha
      · exact lessPt_trans ha (h1 e he)
    | true =>
      obtain ⟨j, hj, hlo, hhi⟩ := place_new l x y h2 fun e he => hne e (by simp [he])
      refine ⟨j + 1, by simp; omega, fun e he => ?_, fun e he => ?_⟩
      · simp only [List.take_succ_cons, List.mem_cons] at he
        rcases he with rfl | he
        · exact hl
        · exact hlo e he
      · exact hhi e (by simpa using he)
theorem DrA.insert {xs : List Pl} {m n B : Nat} (h : DrA xs m n B) {x y : Int} {t : Nat} (ht : t < m) (hx : -(B : Int) ≤ x ∧ x ≤ B) (hy : -(B : Int) ≤ y ∧ y ≤ B) (hne : ∀ e ∈ xs, ¬ (e.x = x ∧ e.y = y)) :
    ∃ j, j ≤ xs.length ∧ (∀ (k : Nat) (d : Pl), k < j → xs[k]? = some d → lessPt x y d.x d.y = false) ∧ (∀ (d : Pl), xs[j]? = some d → lessPt x y d.x d.y = true) ∧ DrA (insL xs j ⟨x, y, t⟩) m (n + 1) B := by
  obtain ⟨j, hj, hlo, hhi⟩ := place_new xs x y h.srt hne
  refine ⟨j, hj, fun k d hk hd => lessPt_no (hlo d (List.mem_of_getElem? (i := k) ?_)), fun d hd => hhi d (List.mem_of_getElem? (i := 0) ?_), ?_, fun e he => ?_, ?_⟩
  · rw [List.getElem?_take, if_pos hk]; exact hd
  · rw [List.getElem?_drop]; exact hd
  · have := h.len
    unfold insL
    simp only [List.length_append, List.length_cons, List.length_take, List.length_drop]
    omega
  · unfold insL at he
    rcases List.mem_append.1 he with he | he
    · exact h.at_ e (List.mem_of_mem_take he)
    · rcases List.mem_cons.1 he with rfl | he
      · exact ⟨hx, hy, t, rfl, ht⟩
      · exact h.at_ e (List.mem_of_mem_drop he)
  · unfold insL
    have hsp : xs.take j ++ xs.drop j = xs := List.take_append_drop j xs
    have hs := h.srt
    rw [← hsp, List.pairwise_append] at hs
    rw [List.pairwise_append]
    refine ⟨hs.1, List.pairwise_cons.2 ⟨fun e he => hhi e he, hs.2.1⟩, fun a ha b hb => ?_⟩
    rcases List.mem_cons.1 hb with rfl | hb
    · exact hlo a ha
    · exact hs.2.2 a ha b hb
theorem DrA.valid {gs : List Gl} {ts : List Ti} {xs : List Pl} {m n B : Nat} (h : DrA xs m n B) (h0 : Valid gs ts []) (hm : ts.length = m) (hB : B ≤ 60) (hn : n ≤ 500) : Valid gs ts xs := by
  refine ⟨by have := h.len; omega, h0.gl, h0.tl, fun k e he => ?_, fun k e he => ?_, fun i j d e hij hd he => ?_, h0.four, h0.side, h0.str⟩
  · obtain ⟨⟨a, b⟩, ⟨c, d⟩, _⟩ := h.at_ e (List.mem_of_getElem? he)
    exact ⟨⟨by omega, by omega⟩, by omega, by omega⟩
  · obtain ⟨_, _, t, ht, htm⟩ := h.at_ e (List.mem_of_getElem? he)
    exact ⟨t, ht, by omega⟩
  · have hj := lt_of_get he
    have hi := lt_of_get hd
    have := List.pairwise_iff_getElem.1 h.srt i j hi hj hij
    rw [List.getElem?_eq_getElem hi] at hd
    rw [List.getElem?_eq_getElem hj] at he
    obtain rfl := Option.some.inj hd
    obtain rfl := Option.some.inj he
    exact this
theorem valid_nil {gs : List Gl} {ts : List Ti} (h : validSetB gs ts = true) : Valid gs ts [] := valid_of (by
  unfold validAsmB; rw [h]
  have h1 : hasFormB [] = true := hasFormB_ok (by simp) (fun j hj => by simp at hj)
  have h2 : allB ([] : List Pl).length (okTile ts.length []) = true := allB_true (fun j hj => by simp at hj)
  rw [h1, h2]; rfl)
/-- a set that stands for any of m tiles -/
theorem valid_any (m : Nat) (hm : m ≤ 160) : Valid [] (List.replicate m ⟨ByteArray.empty, [0, 0, 0, 0]⟩) [] := by
  refine ⟨by simp, by simp, by simpa using hm, fun k e h => by simp at h, fun k e h => by simp at h, fun i j d e hij h => by simp at h, fun j t h => ?_, fun j t d v h hv => ?_, fun j g h => by simp at h⟩
  · rw [List.getElem?_replicate] at h
    split at h
    · obtain rfl := Option.some.inj h; rfl
    · cases h
  · rw [List.getElem?_replicate] at h
    split at h
    · obtain rfl := Option.some.inj h
      have : v ∈ [(0 : Int), 0, 0, 0] := List.mem_of_getElem? hv
      simp at this
      exact ⟨0, by simpa using this, by simp⟩
    · cases h
theorem DrA.asm {gs : List Gl} {ts : List Ti} {xs : List Pl} {m n B : Nat} (h : DrA xs m n B) (hv : validSetB gs ts = true) (hm : ts.length = m) (hB : B ≤ 60) (hn : n ≤ 500) : validAsmB gs ts xs = true := by
  have hV := h.valid (valid_nil hv) hm hB hn
  have htl := hV.tl
  unfold validAsmB
  rw [hv]
  have h1 : hasFormB xs = true := by
    refine hasFormB_ok hV.len fun j hj => ?_
    obtain ⟨e, he⟩ : ∃ e, xs[j]? = some e := ⟨_, List.getElem?_eq_getElem hj⟩
    have hp := hV.pt j e he
    obtain ⟨t, ht, htl2⟩ := hV.ti j e he
    have hpt : validPt e.x e.y = true := by unfold validPt; rw [inB_true.2 hp.1, inB_true.2 hp.2]; rfl
    have ht2 : inB e.t 0 159 = true := inB_true.2 (by omega)
    cases j with
    | zero => rw [okPl_eq0 he, hpt, ht2]; rfl
    | succ i =>
      obtain ⟨d, hd⟩ : ∃ d, xs[i]? = some d := ⟨_, List.getElem?_eq_getElem (by omega)⟩
      rw [okPl_eqS he hd, hpt, ht2, hV.sorted i (i + 1) d e (by omega) hd he]; rfl
  have h2 : allB xs.length (okTile ts.length xs) = true := allB_true fun j hj => by
    obtain ⟨e, he⟩ : ∃ e, xs[j]? = some e := ⟨_, List.getElem?_eq_getElem hj⟩
    obtain ⟨t, ht, htl2⟩ := hV.ti j e he
    unfold okTile
    rw [he]
    exact inB_true.2 (by omega)
  rw [h1, h2]; rfl
theorem place_neg {xs : List Pl} {x y : Int} (h : placeI xs x y < 0) : ∀ e ∈ xs, ¬ (e.x = x ∧ e.y = y) := by
  intro e he hxy
  obtain ⟨k, hk⟩ := List.mem_iff_getElem?.1 he
  rcases placeI_is xs x y with ⟨_, h2⟩ | ⟨j, _, h2, _⟩
  · exact h2 k e hk hxy
  · omega
end Go.Proofs.YtmhgjgclclnmaaaGreat
/- Walk: the reference draws an assembly (printed by gen_dr3.py). -/


namespace Go.Proofs.YtmhgjgclclnmaaaGreat
open Go.RowKit
attribute [local go_sem] BelowBy.cell BelowBy.cell_drew stillUpon givesUpon KpBy.cell KpBy.cell_drew

def DrawAsm (p K m : Nat) (w : World) (e : Ending) (w' : World) : Prop := ∃ v xs, e = .returned (.agg #[v]) ∧ w'.ownsRow w.heap.size 149 3 v xs.length (plCells xs) ∧ DrA xs m 11 24 ∧ SrcE w' p (K + 60) ∧ Kp p w w'
theorem stepX_b {x : Int} {d B : Nat} (h : -(B : Int) ≤ x ∧ x ≤ B) : -((B + 1 : Nat) : Int) ≤ stepX x d ∧ stepX x d ≤ ((B + 1 : Nat) : Int) := by unfold stepX; split <;> (try split) <;> omega
theorem stepY_b {x : Int} {d B : Nat} (h : -(B : Int) ≤ x ∧ x ≤ B) : -((B + 1 : Nat) : Int) ≤ stepY x d ∧ stepY x d ≤ ((B + 1 : Nat) : Int) := by unfold stepY; split <;> (try split) <;> omega
theorem asmAt_of {w : World} {b base : Nat} {v : Value} {xs : List Pl} (hb : Bx w b [v]) (ho : w.ownsRow base 149 3 v xs.length (plCells xs)) : AsmAt w b 0 xs := by
  obtain ⟨A, c, rfl, hr⟩ := rdP_of_row ho
  exact ⟨hb.lt, A, _, c, hb.cell 0 _ rfl, hr⟩
theorem lstepD_any (x y : Int) (d : Nat) (w : World) (hd : d < 4) (hx : -1000 ≤ x ∧ x ≤ 1000) (hy : -1000 ≤ y ∧ y ≤ 1000) :
    Calls Tryz.prog 87 #[.agg #[.int .i64 x, .int .i64 y], .int .i64 d] w fun e w' => e = .returned (.agg #[.int .i64 (stepX x d), .int .i64 (stepY y d)]) ∧ Below w.heap.size w w' := l01Step_any x y d w ⟨by omega, by omega⟩ hx hy
set_option maxRecDepth 100000 in
set_option maxHeartbeats 8000000 in
theorem l03Draw_any {p K m : Nat} {w : World} (h : SrcE w p K) (hK : K ≤ 100000) (h1 : 1 ≤ m) (h2 : m ≤ 160) :
    Calls Tryz.prog 86 #[.pointer (some ⟨p, 0, none⟩), .int .i64 (m : Int)] w (DrawAsm p K m w) := by
  have hlt := h.lt
  have hH := Lib.hid h
  have hV0 := Lib.hid (valid_any m h2)
  clear h
  have hneR : w.heap.size ≠ p := by omega
  have hneS : w.heap.size + 1 ≠ p := by omega
  go_enter Tryz.func86, Tryz.ntmps86
  go_wp2_with fail
  refine (pickE_any 5 (hH.out.below (by exact bel_)) (by omega) rfl (by omega) (by omega)).mono ?_
  rintro e w1 ⟨va, rfl, hva, hS1, hk1⟩
  have bR1 : Hid (Bx w1 w.heap.size [.slice none 0 0]) := Lib.hid (((Bx.made w [.slice none 0 0] 30).below (bl_al (bl_refl _) _)).kp hneR hk1)
  have bS1 : Hid (Bx w1 (w.heap.size + 1) [.slice none 0 0]) := Lib.hid ((by have := Bx.made (w.alloc (Obj.cells #[.slice none 0 0] 30)) [.slice none 0 0] 30; rw [World.size_alloc] at this; exact this : Bx _ _ _).kp hneS hk1)
  have hkA1 : Hid (Kp p w w1) := Lib.hid ((((Kp.refl p w).al (by omega) _).al (by simp; omega) _).trans hk1)
  have hS1 := Lib.hid hS1
  have hwa : IntKind.i64.wrap ((va : Int) - 2) = (va : Int) - 2 := wrapI (by omega) (by omega)
  clear hk1
  go_wp2_with fail
  refine (pickE_any 5 hS1.out (by omega) rfl (by omega) (by omega)).mono ?_
  rintro e w2 ⟨vb, rfl, hvb, hS2, hk2⟩
  have bR2 := Lib.hid (bR1.out.kp hneR hk2)
  have bS2 := Lib.hid (bS1.out.kp hneS hk2)
  have hkA2 := Lib.hid (hkA1.out.trans hk2)
  have hS2 := Lib.hid hS2
  have hwb : IntKind.i64.wrap ((vb : Int) - 2) = (vb : Int) - 2 := wrapI (by omega) (by omega)
  have l2 : w.heap.size + 1 < w2.heap.size := bS2.out.lt
  have hneP : w2.heap.size ≠ p := by have := hS2.out.lt; omega
  clear hk2 hS1 bR1 bS1 hkA1
  go_wp2_with fail
  refine (pickE_any 12 (hS2.out.below (by exact bel_)) (by omega) rfl (by omega) (by omega)).mono ?_
  rintro e w3 ⟨v, rfl, hv, hS3, hk3⟩
  have hal : Below w2.heap.size w2 (w2.alloc (Obj.cells #[.int .i64 ((va : Int) - 2), .int .i64 ((vb : Int) - 2)] 147)) := bl_al (bl_refl _) _
  have bR := Lib.hid ((bR2.out.below hal).kp hneR hk3)
  have bS := Lib.hid ((bS2.out.below hal).kp hneS hk3)
  have bP : Hid (Bx w3 w2.heap.size [.int .i64 ((va : Int) - 2), .int .i64 ((vb : Int) - 2)]) := Lib.hid ((Bx.made w2 [.int .i64 ((va : Int) - 2), .int .i64 ((vb : Int) - 2)] 147).kp hneP hk3)
  have hkA := Lib.hid ((hkA2.out.thenB hlt (hal.mono (by omega))).trans hk3)
  have hS := Lib.hid hS3
  have l3 : w2.heap.size < w3.heap.size := bP.out.lt
  clear hk3 hS3 bR2 bS2 hkA2 hS2 hal hwa hwb
  go_wp2
  go_loopg [7] v (fun gq x wr => ∃ (r : Nat) (xs : List Pl) (A : Option Addr) (c : Nat) (X Y : Int), r ≤ gq ∧ r ≤ v ∧ x = .int .i64 (r : Int) ∧ Hid (DrA xs m (v - r) (2 + 2 * (v - r))) ∧ Hid ((-((2 + 2 * (v - r) : Nat) : Int) ≤ X ∧ X ≤ ((2 + 2 * (v - r) : Nat) : Int)) ∧ (-((2 + 2 * (v - r) : Nat) : Int) ≤ Y ∧ Y ≤ ((2 + 2 * (v - r) : Nat) : Int))) ∧ Hid (wr.ownsRow (w2.heap.size + 1) 149 3 (.slice A xs.length c) xs.length (plCells xs)) ∧ Hid (SrcE wr p (K + 3 + 4 * (v - r))) ∧ Hid (Kp p w wr) ∧ Hid (Bx wr w.heap.size [.slice none 0 0]) ∧ Hid (Bx wr (w.heap.size + 1) [.slice A xs.length c]) ∧ Hid (Bx wr w2.heap.size [.int .i64 X, .int .i64 Y]))
  case atStart => exact ⟨v, [], none, 0, _, _, Nat.le_refl _, Nat.le_refl _, rfl, Lib.hid (DrA.nil _ _ _), Lib.hid ⟨by omega, by omega⟩, Lib.hid (World.ownsRow_nil _ _ _ _), Lib.hid (hS.out.more (by omega)), hkA, bR, bS, bP⟩
  case round =>
    clear hS hkA bR bS bP
    obtain ⟨r0, xs, A, c, X, Y, hrg, hrv, rfl, hD, hXY, hO, hS, hkA, bR, bS, bP⟩ := hrel
    have p0 := bP.out.cell 0 _ rfl
    have p1 := bP.out.cell 1 _ rfl
    have lP := bP.out.lt
    cases r0 with
    | zero =>
      have s0 := bS.out.cell 0 _ rfl
      have lS := bS.out.lt
      have rr0 := bR.out.cell 0 _ rfl
      have rf := bR.out.froz 0
      have lR := bR.out.lt
      go_wp2
      refine bodyPost_ret (v := .agg #[.slice A xs.length c]) (by simp only [results, Tryz.results86]; go_simp) rfl ?_
      exact ⟨_, xs, rfl, ownsRow_lo (ownsRow_setB hO.out (by simp; omega) _) (by omega), hD.out.more (by omega) (by omega), (hS.out.belowB (B := w.heap.size) (by omega) ((Below.refl _ _).setCell (p := ⟨w.heap.size, 0, none⟩) (Nat.le_refl _) _)).more (by omega), hkA.out.thenB hlt ((Below.refl _ _).setCell (p := ⟨w.heap.size, 0, none⟩) (Nat.le_refl _) _)⟩
    | succ r =>
      have hpos : (0 : Int) < (r : Int) + 1 := by omega
      obtain ⟨B, hB⟩ : ∃ B, 2 + 2 * (v - (r + 1)) = B := ⟨_, rfl⟩
      have hB24 : B ≤ 24 := by omega
      have hBn : 2 + 2 * (v - r) = B + 2 := by omega
      have hn : v - r = v - (r + 1) + 1 := by omega
      rw [hB] at hD hXY
      obtain ⟨⟨hX1, hX2⟩, hY1, hY2⟩ := hXY.out
      have hA0 := Lib.hid (asmAt_of bS.out hO.out)
      have hV := Lib.hid (hD.out.valid hV0.out (by simp) (by omega) (by omega))
      go_wp2_with fail
      refine (l03Index_any (op := 0) _ [] (List.replicate m ⟨ByteArray.empty, [0, 0, 0, 0]⟩) xs X Y _ hA0.out hV.out).mono ?_
      rintro e w4 ⟨rfl, hb4⟩
      have bR4 := Lib.hid (bR.out.below hb4)
      have bS4 := Lib.hid (bS.out.below hb4)
      have bP4 := Lib.hid (bP.out.below hb4)
      have hO4 := Lib.hid (ownsRow_below hO.out hb4)
      have hS4 := Lib.hid (hS.out.below hb4)
      have hk4 := Lib.hid (hkA.out.then hlt hb4)
      clear hb4 hA0 hO hS hkA bR bS bP p0 p1 lP
      obtain ⟨pl, hpl⟩ : ∃ pl, placeI xs X Y = pl := ⟨_, rfl⟩
      rw [hpl]
      have p0 := bP4.out.cell 0 _ rfl
      have p1 := bP4.out.cell 1 _ rfl
      have lP := bP4.out.lt

      have hBn' : 2 + 2 * (v - (r + 1) + 1) = B + 2 := by omega
      by_cases hneg : pl < 0
      · obtain ⟨j0, hj0, hlo, hhi, hDI⟩ : ∃ j0, j0 ≤ xs.length ∧ (∀ (k : Nat) (d : Pl), k < j0 → xs[k]? = some d → lessPt X Y d.x d.y = false) ∧ (∀ (d : Pl), xs[j0]? = some d → lessPt X Y d.x d.y = true) ∧ ∀ t : Nat, t < m → DrA (insL xs j0 ⟨X, Y, t⟩) m (v - (r + 1) + 1) B := by
          obtain ⟨j, h1, h2, h3, h4⟩ := hD.out.insert (x := X) (y := Y) (t := 0) (by omega) ⟨hX1, hX2⟩ ⟨hY1, hY2⟩ (place_neg (by rw [hpl]; exact hneg))
          refine ⟨j, h1, h2, h3, fun t ht => ?_⟩
          obtain ⟨j', h1', h2', h3', h4'⟩ := hD.out.insert (x := X) (y := Y) (t := t) ht ⟨hX1, hX2⟩ ⟨hY1, hY2⟩ (place_neg (by rw [hpl]; exact hneg))
          have : j = j' := by
            rcases Nat.lt_trichotomy j j' with hlt2 | rfl | hlt2
            · obtain ⟨d, hd⟩ : ∃ d, xs[j]? = some d := ⟨_, List.getElem?_eq_getElem (by omega)⟩
              have e1 := h3 d hd; have e2 := h2' j d hlt2 hd; rw [e1] at e2; cases e2
            · rfl
            · obtain ⟨d, hd⟩ : ∃ d, xs[j']? = some d := ⟨_, List.getElem?_eq_getElem (by omega)⟩
              have e1 := h3' d hd; have e2 := h2 j' d hlt2 hd; rw [e1] at e2; cases e2
          rw [this]; exact h4'
        have hloH := Lib.hid hlo
        have hhiH := Lib.hid hhi
        have hDIH := Lib.hid hDI
        have hxl := Lib.hid hD.out.len
        clear hlo hhi hDI
        go_wp2
        refine wp_region_ordK (p := p) [(0, .q), (1, .q), (2, .q), (3, .g), (4, .g), (5, .b)] (by kernel_rfl) (by kernel_rfl) ?_
        simp only [pick, List.filterMap_cons, List.filterMap_nil, List.getElem?_toArray, List.getElem?_cons_zero, List.getElem?_cons_succ, Option.map_some]
        repeat (first | ((with_reducible refine wpK_p (fun K hK => ?_)); go_simp; refine hK _ ?_; clear hK K) | ((with_reducible refine wpK_q (fun K hK => ?_)); go_simp; (first | refine hK _ ?_ | (go_bits; refine hK _ ?_) | (go_bits; go_simp; refine hK _ ?_)); clear hK K))
        with_reducible refine wpK_g (fun K hK => ?_)
        go_simp
        go_at_call 43
        refine (pickE_any m (hS4.out.below (bl_dr (bl_refl _))) (by omega) rfl (by omega) (by omega)).mono ?_
        rintro e w5a ⟨vt, rfl, hvt, hS5a, hk5a⟩
        refine ⟨_, rfl, hk5a, hK _ _ ?_⟩
        clear hK K
        have hk5b := (Kp.refl p w4).drew.trans hk5a
        have bR5a := Lib.hid (bR4.out.kp hneR hk5b)
        have bS5a := Lib.hid (bS4.out.kp hneS hk5b)
        have bP5a := Lib.hid (bP4.out.kp hneP hk5b)
        have hO5a := Lib.hid (Own_kp hO4.out (by omega) hk5b)
        have hk5c := Lib.hid (hk4.out.trans hk5b)
        have hS5a := Lib.hid hS5a
        have lp5 := hS5a.out.lt
        clear hk5a hk5b bR4 bS4 bP4 hO4 hk4 hS4 p0 p1 lP
        repeat (first | ((with_reducible refine wpK_p (fun K hK => ?_)); go_simp; refine hK _ ?_; clear hK K) | ((with_reducible refine wpK_q (fun K hK => ?_)); go_simp; (first | refine hK _ ?_ | (go_bits; refine hK _ ?_) | (go_bits; go_simp; refine hK _ ?_)); clear hK K))
        with_reducible refine wpK_g (fun K hK => ?_)
        go_simp
        go_at_call 90
        refine (l03Put_any (op := 0) _ [] [] xs X Y vt j0 _ (asmAt_of bS5a.out hO5a.out) (by have := hxl.out; omega) hj0 hloH.out hhiH.out).mono ?_
        rintro e w5b ⟨v5, rfl, hO5, hb5⟩
        refine ⟨_, rfl, (Kp.refl _ _).then lp5 hb5, hK _ _ ?_⟩
        clear hK K
        obtain ⟨A5, c5, rfl⟩ := ownsRow_form hO5
        have hD5 := Lib.hid (hDIH.out vt hvt)
        obtain ⟨xs5, hxs5⟩ : ∃ z, z = insL xs j0 ⟨X, Y, vt⟩ := ⟨_, rfl⟩
        rw [← hxs5] at hO5 hD5 ⊢
        have bR5b := Lib.hid (bR5a.out.below hb5)
        have bS5b := Lib.hid (bS5a.out.below hb5)
        have bP5b := Lib.hid (bP5a.out.below hb5)
        have hO5b := Lib.hid (ownsRow_lo (base' := w2.heap.size + 1) hO5 (by have := bP5a.out.lt; omega))
        have hS5b := Lib.hid (hS5a.out.below hb5)
        have hk5d := Lib.hid (hk5c.out.then hlt hb5)
        have q0 := bS5b.out.cell 0 _ rfl
        have f0 := bS5b.out.froz 0
        have lq := bS5b.out.lt
        clear hb5 bR5a bS5a bP5a hO5a hO5 hS5a hk5c lp5 hxs5 hloH hhiH hDIH
        repeat (first | ((with_reducible refine wpK_p (fun K hK => ?_)); go_simp; refine hK _ ?_; clear hK K) | ((with_reducible refine wpK_q (fun K hK => ?_)); go_simp; (first | refine hK _ ?_ | (go_bits; refine hK _ ?_) | (go_bits; go_simp; refine hK _ ?_)); clear hK K))
        with_reducible refine wpK_b (fun K hK => ?_)
        go_simp
        refine hK _ _ ?_
        clear hK K
        repeat (first | ((with_reducible refine wpK_p (fun K hK => ?_)); go_simp; refine hK _ ?_; clear hK K) | ((with_reducible refine wpK_q (fun K hK => ?_)); go_simp; (first | refine hK _ ?_ | (go_bits; refine hK _ ?_) | (go_bits; go_simp; refine hK _ ?_)); clear hK K))
        with_reducible refine wpK_nil ?_
        have hP5 := Lib.hid ((Below.refl (w.heap.size + 1) w5b).setCell (p := ⟨w.heap.size + 1, 0, none⟩) (Nat.le_refl _) (.slice A5 xs5.length c5))
        have bR5 := Lib.hid (bR5b.out.belowB (by omega) hP5.out)
        have bS5 : Hid (Bx (w5b.setCell ⟨w.heap.size + 1, 0, none⟩ (.slice A5 xs5.length c5)) (w.heap.size + 1) [.slice A5 xs5.length c5]) := Lib.hid (bS5b.out.setSame 0 _)
        have bP5 := Lib.hid (bP5b.out.setOther (a := ⟨w.heap.size + 1, 0, none⟩) (by simp; omega) (.slice A5 xs5.length c5))
        have hS5 := Lib.hid (hS5b.out.belowB (by omega) hP5.out)
        have hk5 := Lib.hid (hk5d.out.thenB hlt (hP5.out.mono (by omega)))
        have hO5 := Lib.hid (ownsRow_setB hO5b.out (by simp; omega) (.slice A5 xs5.length c5) (p := ⟨w.heap.size + 1, 0, none⟩))
        obtain ⟨w5, hw5⟩ : ∃ W, W = w5b.setCell ⟨w.heap.size + 1, 0, none⟩ (.slice A5 xs5.length c5) := ⟨_, rfl⟩
        rw [← hw5] at bR5 bS5 bP5 hS5 hk5 hO5 ⊢
        clear hw5 hP5 bR5b bS5b bP5b hS5b hk5d hO5b q0 f0 lq
        have p0 := bP5.out.cell 0 _ rfl
        have p1 := bP5.out.cell 1 _ rfl
        have lP := bP5.out.lt
        go_wp2
        refine wp_region_ordK (p := p) [(0, .q), (1, .q), (2, .g), (3, .g), (4, .b)] (by kernel_rfl) (by kernel_rfl) ?_
        simp only [pick, List.filterMap_cons, List.filterMap_nil, List.getElem?_toArray, List.getElem?_cons_zero, List.getElem?_cons_succ, Option.map_some]
        repeat (first | ((with_reducible refine wpK_p (fun K hK => ?_)); go_simp; refine hK _ ?_; clear hK K) | ((with_reducible refine wpK_q (fun K hK => ?_)); go_simp; (first | refine hK _ ?_ | (go_bits; refine hK _ ?_) | (go_bits; go_simp; refine hK _ ?_)); clear hK K))
        with_reducible refine wpK_g (fun K hK => ?_)
        go_simp
        go_at_call 43
        refine (pickE_any 4 (hS5.out.below (bl_dr (bl_refl _))) (by omega) rfl (by omega) (by omega)).mono ?_
        rintro e w6a ⟨vd, rfl, hvd, hS6a, hk6a⟩
        refine ⟨_, rfl, hk6a, hK _ _ ?_⟩
        clear hK K
        have hk6b := (Kp.refl p w5).drew.trans hk6a
        have bR6a := Lib.hid (bR5.out.kp hneR hk6b)
        have bS6a := Lib.hid (bS5.out.kp hneS hk6b)
        have bP6a := Lib.hid (bP5.out.kp hneP hk6b)
        have hO6a := Lib.hid (Own_kp hO5.out (by omega) hk6b)
        have hk6c := Lib.hid (hk5.out.trans hk6b)
        have hS6a := Lib.hid hS6a
        have lp6 := hS6a.out.lt
        clear hk6a hk6b bR5 bS5 bP5 hO5 hk5 hS5 p0 p1 lP
        repeat (first | ((with_reducible refine wpK_p (fun K hK => ?_)); go_simp; refine hK _ ?_; clear hK K) | ((with_reducible refine wpK_q (fun K hK => ?_)); go_simp; (first | refine hK _ ?_ | (go_bits; refine hK _ ?_) | (go_bits; go_simp; refine hK _ ?_)); clear hK K))
        with_reducible refine wpK_g (fun K hK => ?_)
        go_simp
        go_at_call 87
        refine (lstepD_any _ _ vd _ hvd ⟨by omega, by omega⟩ ⟨by omega, by omega⟩).mono ?_
        rintro e w6b ⟨rfl, hb6⟩
        refine ⟨_, rfl, (Kp.refl _ _).then lp6 hb6, hK _ _ ?_⟩
        clear hK K
        have bR6b := Lib.hid (bR6a.out.below hb6)
        have bS6b := Lib.hid (bS6a.out.below hb6)
        have bP6b := Lib.hid (bP6a.out.below hb6)
        have hO6b := Lib.hid (ownsRow_below hO6a.out hb6)
        have hS6b := Lib.hid (hS6a.out.below hb6)
        have hk6d := Lib.hid (hk6c.out.then hlt hb6)
        have q0 := bP6b.out.cell 0 _ rfl
        have q1 := bP6b.out.cell 1 _ rfl
        have f0 := bP6b.out.froz 0
        have f1 := bP6b.out.froz 1
        have lq := bP6b.out.lt
        clear hb6 bR6a bS6a bP6a hO6a hS6a hk6c lp6
        repeat (first | ((with_reducible refine wpK_p (fun K hK => ?_)); go_simp; refine hK _ ?_; clear hK K) | ((with_reducible refine wpK_q (fun K hK => ?_)); go_simp; (first | refine hK _ ?_ | (go_bits; refine hK _ ?_) | (go_bits; go_simp; refine hK _ ?_)); clear hK K))
        with_reducible refine wpK_b (fun K hK => ?_)
        go_simp
        refine hK _ _ ?_
        clear hK K
        repeat (first | ((with_reducible refine wpK_p (fun K hK => ?_)); go_simp; refine hK _ ?_; clear hK K) | ((with_reducible refine wpK_q (fun K hK => ?_)); go_simp; (first | refine hK _ ?_ | (go_bits; refine hK _ ?_) | (go_bits; go_simp; refine hK _ ?_)); clear hK K))
        with_reducible refine wpK_nil ?_
        obtain ⟨X6, hX6⟩ : ∃ z, z = stepX X vd := ⟨_, rfl⟩
        obtain ⟨Y6, hY6⟩ : ∃ z, z = stepY Y vd := ⟨_, rfl⟩
        have bX6 := stepX_b (d := vd) ⟨hX1, hX2⟩
        have bY6 := stepY_b (d := vd) ⟨hY1, hY2⟩
        rw [← hX6] at bX6 ⊢
        rw [← hY6] at bY6 ⊢
        have hP6 := Lib.hid (((Below.refl w2.heap.size w6b).setCell (p := ⟨w2.heap.size, 0, none⟩) (Nat.le_refl _) (.int .i64 X6)).setCell (p := ⟨w2.heap.size, 1, none⟩) (Nat.le_refl _) (.int .i64 Y6))
        have bR6 := Lib.hid (bR6b.out.belowB (by omega) hP6.out)
        have bS6 := Lib.hid (bS6b.out.belowB (by omega) hP6.out)
        have bP6 : Hid (Bx ((w6b.setCell ⟨w2.heap.size, 0, none⟩ (.int .i64 X6)).setCell ⟨w2.heap.size, 1, none⟩ (.int .i64 Y6)) w2.heap.size [.int .i64 X6, .int .i64 Y6]) := Lib.hid ((bP6b.out.setSame 0 (.int .i64 X6)).setSame 1 (.int .i64 Y6))
        have hS6 := Lib.hid (hS6b.out.belowB (by omega) hP6.out)
        have hk6 := Lib.hid (hk6d.out.thenB hlt (hP6.out.mono (by omega)))
        have hO6 := Lib.hid (ownsRow_setB (ownsRow_setB hO6b.out (by simp) (.int .i64 X6) (p := ⟨w2.heap.size, 0, none⟩)) (by simp) (.int .i64 Y6) (p := ⟨w2.heap.size, 1, none⟩))
        obtain ⟨w6, hw6⟩ : ∃ W, W = (w6b.setCell ⟨w2.heap.size, 0, none⟩ (.int .i64 X6)).setCell ⟨w2.heap.size, 1, none⟩ (.int .i64 Y6) := ⟨_, rfl⟩
        rw [← hw6] at bR6 bS6 bP6 hS6 hk6 hO6 ⊢
        clear hw6 hP6 bR6b bS6b bP6b hS6b hk6d hO6b q0 q1 f0 f1 lq hX6 hY6
        have hS6x := hS6
        have lp6 := hS6.out.lt
        go_wp2_with fail
        refine (oneE_any 10 hS6.out (by omega) rfl (by omega) (by omega)).mono ?_
        rintro e w7 ⟨vo, rfl, hS7, hk7⟩
        have bR7 := Lib.hid (bR6.out.kp hneR hk7)
        have bS7 := Lib.hid (bS6.out.kp hneS hk7)
        have bP7 := Lib.hid (bP6.out.kp hneP hk7)
        have hO7 := Lib.hid (Own_kp hO6.out (by omega) hk7)
        have hkw7 := Lib.hid (hk6.out.trans hk7)
        have hS7 := Lib.hid hS7
        clear hk7 bR6 bS6 bP6 hO6 hk6 hS6 hS6x lp6
        have hk7 := hkw7
        clear hkw7
        cases vo
        · go_wp2
          go_roundg r
          case measure => omega
          case rel => exact ⟨r, xs5, A5, c5, X6, Y6, Nat.le_refl _, by omega, by go_num, Lib.hid (by rw [hn, hBn']; exact hD5.out.more (Nat.le_refl _) (by omega)), Lib.hid (by rw [hn, hBn']; exact ⟨⟨by omega, by omega⟩, by omega, by omega⟩), hO7, Lib.hid (hS7.out.more (by omega)), hk7, bR7, bS7, bP7⟩
        · have p0 := bP7.out.cell 0 _ rfl
          have p1 := bP7.out.cell 1 _ rfl
          have lP := bP7.out.lt
          go_wp2
          refine wp_region_ordK (p := p) [(0, .q), (1, .q), (2, .g), (3, .g), (4, .b)] (by kernel_rfl) (by kernel_rfl) ?_
          simp only [pick, List.filterMap_cons, List.filterMap_nil, List.getElem?_toArray, List.getElem?_cons_zero, List.getElem?_cons_succ, Option.map_some]
          repeat (first | ((with_reducible refine wpK_p (fun K hK => ?_)); go_simp; refine hK _ ?_; clear hK K) | ((with_reducible refine wpK_q (fun K hK => ?_)); go_simp; (first | refine hK _ ?_ | (go_bits; refine hK _ ?_) | (go_bits; go_simp; refine hK _ ?_)); clear hK K))
          with_reducible refine wpK_g (fun K hK => ?_)
          go_simp
          go_at_call 43
          refine (pickE_any 4 (hS7.out.below (bl_dr (bl_refl _))) (by omega) rfl (by omega) (by omega)).mono ?_
          rintro e w8a ⟨vd, rfl, hvd, hS8a, hk8a⟩
          refine ⟨_, rfl, hk8a, hK _ _ ?_⟩
          clear hK K
          have hk8b := (Kp.refl p w7).drew.trans hk8a
          have bR8a := Lib.hid (bR7.out.kp hneR hk8b)
          have bS8a := Lib.hid (bS7.out.kp hneS hk8b)
          have bP8a := Lib.hid (bP7.out.kp hneP hk8b)
          have hO8a := Lib.hid (Own_kp hO7.out (by omega) hk8b)
          have hk8c := Lib.hid (hk7.out.trans hk8b)
          have hS8a := Lib.hid hS8a
          have lp8 := hS8a.out.lt
          clear hk8a hk8b bR7 bS7 bP7 hO7 hk7 hS7 p0 p1 lP
          repeat (first | ((with_reducible refine wpK_p (fun K hK => ?_)); go_simp; refine hK _ ?_; clear hK K) | ((with_reducible refine wpK_q (fun K hK => ?_)); go_simp; (first | refine hK _ ?_ | (go_bits; refine hK _ ?_) | (go_bits; go_simp; refine hK _ ?_)); clear hK K))
          with_reducible refine wpK_g (fun K hK => ?_)
          go_simp
          go_at_call 87
          refine (lstepD_any _ _ vd _ hvd ⟨by omega, by omega⟩ ⟨by omega, by omega⟩).mono ?_
          rintro e w8b ⟨rfl, hb8⟩
          refine ⟨_, rfl, (Kp.refl _ _).then lp8 hb8, hK _ _ ?_⟩
          clear hK K
          have bR8b := Lib.hid (bR8a.out.below hb8)
          have bS8b := Lib.hid (bS8a.out.below hb8)
          have bP8b := Lib.hid (bP8a.out.below hb8)
          have hO8b := Lib.hid (ownsRow_below hO8a.out hb8)
          have hS8b := Lib.hid (hS8a.out.below hb8)
          have hk8d := Lib.hid (hk8c.out.then hlt hb8)
          have q0 := bP8b.out.cell 0 _ rfl
          have q1 := bP8b.out.cell 1 _ rfl
          have f0 := bP8b.out.froz 0
          have f1 := bP8b.out.froz 1
          have lq := bP8b.out.lt
          clear hb8 bR8a bS8a bP8a hO8a hS8a hk8c lp8
          repeat (first | ((with_reducible refine wpK_p (fun K hK => ?_)); go_simp; refine hK _ ?_; clear hK K) | ((with_reducible refine wpK_q (fun K hK => ?_)); go_simp; (first | refine hK _ ?_ | (go_bits; refine hK _ ?_) | (go_bits; go_simp; refine hK _ ?_)); clear hK K))
          with_reducible refine wpK_b (fun K hK => ?_)
          go_simp
          refine hK _ _ ?_
          clear hK K
          repeat (first | ((with_reducible refine wpK_p (fun K hK => ?_)); go_simp; refine hK _ ?_; clear hK K) | ((with_reducible refine wpK_q (fun K hK => ?_)); go_simp; (first | refine hK _ ?_ | (go_bits; refine hK _ ?_) | (go_bits; go_simp; refine hK _ ?_)); clear hK K))
          with_reducible refine wpK_nil ?_
          obtain ⟨X8, hX8⟩ : ∃ z, z = stepX X6 vd := ⟨_, rfl⟩
          obtain ⟨Y8, hY8⟩ : ∃ z, z = stepY Y6 vd := ⟨_, rfl⟩
          have bX8 := stepX_b (d := vd) bX6
          have bY8 := stepY_b (d := vd) bY6
          rw [← hX8] at bX8 ⊢
          rw [← hY8] at bY8 ⊢
          have hP8 := Lib.hid (((Below.refl w2.heap.size w8b).setCell (p := ⟨w2.heap.size, 0, none⟩) (Nat.le_refl _) (.int .i64 X8)).setCell (p := ⟨w2.heap.size, 1, none⟩) (Nat.le_refl _) (.int .i64 Y8))
          have bR8 := Lib.hid (bR8b.out.belowB (by omega) hP8.out)
          have bS8 := Lib.hid (bS8b.out.belowB (by omega) hP8.out)
          have bP8 : Hid (Bx ((w8b.setCell ⟨w2.heap.size, 0, none⟩ (.int .i64 X8)).setCell ⟨w2.heap.size, 1, none⟩ (.int .i64 Y8)) w2.heap.size [.int .i64 X8, .int .i64 Y8]) := Lib.hid ((bP8b.out.setSame 0 (.int .i64 X8)).setSame 1 (.int .i64 Y8))
          have hS8 := Lib.hid (hS8b.out.belowB (by omega) hP8.out)
          have hk8 := Lib.hid (hk8d.out.thenB hlt (hP8.out.mono (by omega)))
          have hO8 := Lib.hid (ownsRow_setB (ownsRow_setB hO8b.out (by simp) (.int .i64 X8) (p := ⟨w2.heap.size, 0, none⟩)) (by simp) (.int .i64 Y8) (p := ⟨w2.heap.size, 1, none⟩))
          obtain ⟨w8, hw8⟩ : ∃ W, W = (w8b.setCell ⟨w2.heap.size, 0, none⟩ (.int .i64 X8)).setCell ⟨w2.heap.size, 1, none⟩ (.int .i64 Y8) := ⟨_, rfl⟩
          rw [← hw8] at bR8 bS8 bP8 hS8 hk8 hO8 ⊢
          clear hw8 hP8 bR8b bS8b bP8b hS8b hk8d hO8b q0 q1 f0 f1 lq hX8 hY8
          go_wp2
          go_roundg r
          case measure => omega
          case rel => exact ⟨r, xs5, A5, c5, X8, Y8, Nat.le_refl _, by omega, by go_num, Lib.hid (by rw [hn, hBn']; exact hD5.out.more (Nat.le_refl _) (by omega)), Lib.hid (by rw [hn, hBn']; exact ⟨⟨by omega, by omega⟩, by omega, by omega⟩), hO8, Lib.hid (hS8.out.more (by omega)), hk8, bR8, bS8, bP8⟩
      · have hneg2 : ¬ pl < 0 := hneg
        go_wp2
        refine wp_region_ordK (p := p) [(0, .q), (1, .q), (2, .g), (3, .g), (4, .b)] (by kernel_rfl) (by kernel_rfl) ?_
        simp only [pick, List.filterMap_cons, List.filterMap_nil, List.getElem?_toArray, List.getElem?_cons_zero, List.getElem?_cons_succ, Option.map_some]
        repeat (first | ((with_reducible refine wpK_p (fun K hK => ?_)); go_simp; refine hK _ ?_; clear hK K) | ((with_reducible refine wpK_q (fun K hK => ?_)); go_simp; (first | refine hK _ ?_ | (go_bits; refine hK _ ?_) | (go_bits; go_simp; refine hK _ ?_)); clear hK K))
        with_reducible refine wpK_g (fun K hK => ?_)
        go_simp
        go_at_call 43
        refine (pickE_any 4 (hS4.out.below (bl_dr (bl_refl _))) (by omega) rfl (by omega) (by omega)).mono ?_
        rintro e w6a ⟨vd, rfl, hvd, hS6a, hk6a⟩
        refine ⟨_, rfl, hk6a, hK _ _ ?_⟩
        clear hK K
        have hk6b := (Kp.refl p w4).drew.trans hk6a
        have bR6a := Lib.hid (bR4.out.kp hneR hk6b)
        have bS6a := Lib.hid (bS4.out.kp hneS hk6b)
        have bP6a := Lib.hid (bP4.out.kp hneP hk6b)
        have hO6a := Lib.hid (Own_kp hO4.out (by omega) hk6b)
        have hk6c := Lib.hid (hk4.out.trans hk6b)
        have hS6a := Lib.hid hS6a
        have lp6 := hS6a.out.lt
        clear hk6a hk6b bR4 bS4 bP4 hO4 hk4 hS4 p0 p1 lP
        repeat (first | ((with_reducible refine wpK_p (fun K hK => ?_)); go_simp; refine hK _ ?_; clear hK K) | ((with_reducible refine wpK_q (fun K hK => ?_)); go_simp; (first | refine hK _ ?_ | (go_bits; refine hK _ ?_) | (go_bits; go_simp; refine hK _ ?_)); clear hK K))
        with_reducible refine wpK_g (fun K hK => ?_)
        go_simp
        go_at_call 87
        refine (lstepD_any _ _ vd _ hvd ⟨by omega, by omega⟩ ⟨by omega, by omega⟩).mono ?_
        rintro e w6b ⟨rfl, hb6⟩
        refine ⟨_, rfl, (Kp.refl _ _).then lp6 hb6, hK _ _ ?_⟩
        clear hK K
        have bR6b := Lib.hid (bR6a.out.below hb6)
        have bS6b := Lib.hid (bS6a.out.below hb6)
        have bP6b := Lib.hid (bP6a.out.below hb6)
        have hO6b := Lib.hid (ownsRow_below hO6a.out hb6)
        have hS6b := Lib.hid (hS6a.out.below hb6)
        have hk6d := Lib.hid (hk6c.out.then hlt hb6)
        have q0 := bP6b.out.cell 0 _ rfl
        have q1 := bP6b.out.cell 1 _ rfl
        have f0 := bP6b.out.froz 0
        have f1 := bP6b.out.froz 1
        have lq := bP6b.out.lt
        clear hb6 bR6a bS6a bP6a hO6a hS6a hk6c lp6
        repeat (first | ((with_reducible refine wpK_p (fun K hK => ?_)); go_simp; refine hK _ ?_; clear hK K) | ((with_reducible refine wpK_q (fun K hK => ?_)); go_simp; (first | refine hK _ ?_ | (go_bits; refine hK _ ?_) | (go_bits; go_simp; refine hK _ ?_)); clear hK K))
        with_reducible refine wpK_b (fun K hK => ?_)
        go_simp
        refine hK _ _ ?_
        clear hK K
        repeat (first | ((with_reducible refine wpK_p (fun K hK => ?_)); go_simp; refine hK _ ?_; clear hK K) | ((with_reducible refine wpK_q (fun K hK => ?_)); go_simp; (first | refine hK _ ?_ | (go_bits; refine hK _ ?_) | (go_bits; go_simp; refine hK _ ?_)); clear hK K))
        with_reducible refine wpK_nil ?_
        obtain ⟨X6, hX6⟩ : ∃ z, z = stepX X vd := ⟨_, rfl⟩
        obtain ⟨Y6, hY6⟩ : ∃ z, z = stepY Y vd := ⟨_, rfl⟩
        have bX6 := stepX_b (d := vd) ⟨hX1, hX2⟩
        have bY6 := stepY_b (d := vd) ⟨hY1, hY2⟩
        rw [← hX6] at bX6 ⊢
        rw [← hY6] at bY6 ⊢
        have hP6 := Lib.hid (((Below.refl w2.heap.size w6b).setCell (p := ⟨w2.heap.size, 0, none⟩) (Nat.le_refl _) (.int .i64 X6)).setCell (p := ⟨w2.heap.size, 1, none⟩) (Nat.le_refl _) (.int .i64 Y6))
        have bR6 := Lib.hid (bR6b.out.belowB (by omega) hP6.out)
        have bS6 := Lib.hid (bS6b.out.belowB (by omega) hP6.out)
        have bP6 : Hid (Bx ((w6b.setCell ⟨w2.heap.size, 0, none⟩ (.int .i64 X6)).setCell ⟨w2.heap.size, 1, none⟩ (.int .i64 Y6)) w2.heap.size [.int .i64 X6, .int .i64 Y6]) := Lib.hid ((bP6b.out.setSame 0 (.int .i64 X6)).setSame 1 (.int .i64 Y6))
        have hS6 := Lib.hid (hS6b.out.belowB (by omega) hP6.out)
        have hk6 := Lib.hid (hk6d.out.thenB hlt (hP6.out.mono (by omega)))
        have hO6 := Lib.hid (ownsRow_setB (ownsRow_setB hO6b.out (by simp) (.int .i64 X6) (p := ⟨w2.heap.size, 0, none⟩)) (by simp) (.int .i64 Y6) (p := ⟨w2.heap.size, 1, none⟩))
        obtain ⟨w6, hw6⟩ : ∃ W, W = (w6b.setCell ⟨w2.heap.size, 0, none⟩ (.int .i64 X6)).setCell ⟨w2.heap.size, 1, none⟩ (.int .i64 Y6) := ⟨_, rfl⟩
        rw [← hw6] at bR6 bS6 bP6 hS6 hk6 hO6 ⊢
        clear hw6 hP6 bR6b bS6b bP6b hS6b hk6d hO6b q0 q1 f0 f1 lq hX6 hY6
        have hS6x := hS6
        have lp6 := hS6.out.lt
        go_wp2_with fail
        refine (oneE_any 10 hS6.out (by omega) rfl (by omega) (by omega)).mono ?_
        rintro e w7 ⟨vo, rfl, hS7, hk7⟩
        have bR7 := Lib.hid (bR6.out.kp hneR hk7)
        have bS7 := Lib.hid (bS6.out.kp hneS hk7)
        have bP7 := Lib.hid (bP6.out.kp hneP hk7)
        have hO7 := Lib.hid (Own_kp hO6.out (by omega) hk7)
        have hkw7 := Lib.hid (hk6.out.trans hk7)
        have hS7 := Lib.hid hS7
        clear hk7 bR6 bS6 bP6 hO6 hk6 hS6 hS6x lp6
        have hk7 := hkw7
        clear hkw7
        cases vo
        · go_wp2
          go_roundg r
          case measure => omega
          case rel => exact ⟨r, xs, A, c, X6, Y6, Nat.le_refl _, by omega, by go_num, Lib.hid (by rw [hn, hBn']; exact hD.out.more (by omega) (by omega)), Lib.hid (by rw [hn, hBn']; exact ⟨⟨by omega, by omega⟩, by omega, by omega⟩), hO7, Lib.hid (hS7.out.more (by omega)), hk7, bR7, bS7, bP7⟩
        · have p0 := bP7.out.cell 0 _ rfl
          have p1 := bP7.out.cell 1 _ rfl
          have lP := bP7.out.lt
          go_wp2
          refine wp_region_ordK (p := p) [(0, .q), (1, .q), (2, .g), (3, .g), (4, .b)] (by kernel_rfl) (by kernel_rfl) ?_
          simp only [pick, List.filterMap_cons, List.filterMap_nil, List.getElem?_toArray, List.getElem?_cons_zero, List.getElem?_cons_succ, Option.map_some]
          repeat (first | ((with_reducible refine wpK_p (fun K hK => ?_)); go_simp; refine hK _ ?_; clear hK K) | ((with_reducible refine wpK_q (fun K hK => ?_)); go_simp; (first | refine hK _ ?_ | (go_bits; refine hK _ ?_) | (go_bits; go_simp; refine hK _ ?_)); clear hK K))
          with_reducible refine wpK_g (fun K hK => ?_)
          go_simp
          go_at_call 43
          refine (pickE_any 4 (hS7.out.below (bl_dr (bl_refl _))) (by omega) rfl (by omega) (by omega)).mono ?_
          rintro e w8a ⟨vd, rfl, hvd, hS8a, hk8a⟩
          refine ⟨_, rfl, hk8a, hK _ _ ?_⟩
          clear hK K
          have hk8b := (Kp.refl p w7).drew.trans hk8a
          have bR8a := Lib.hid (bR7.out.kp hneR hk8b)
          have bS8a := Lib.hid (bS7.out.kp hneS hk8b)
          have bP8a := Lib.hid (bP7.out.kp hneP hk8b)
          have hO8a := Lib.hid (Own_kp hO7.out (by omega) hk8b)
          have hk8c := Lib.hid (hk7.out.trans hk8b)
          have hS8a := Lib.hid hS8a
          have lp8 := hS8a.out.lt
          clear hk8a hk8b bR7 bS7 bP7 hO7 hk7 hS7 p0 p1 lP
          repeat (first | ((with_reducible refine wpK_p (fun K hK => ?_)); go_simp; refine hK _ ?_; clear hK K) | ((with_reducible refine wpK_q (fun K hK => ?_)); go_simp; (first | refine hK _ ?_ | (go_bits; refine hK _ ?_) | (go_bits; go_simp; refine hK _ ?_)); clear hK K))
          with_reducible refine wpK_g (fun K hK => ?_)
          go_simp
          go_at_call 87
          refine (lstepD_any _ _ vd _ hvd ⟨by omega, by omega⟩ ⟨by omega, by omega⟩).mono ?_
          rintro e w8b ⟨rfl, hb8⟩
          refine ⟨_, rfl, (Kp.refl _ _).then lp8 hb8, hK _ _ ?_⟩
          clear hK K
          have bR8b := Lib.hid (bR8a.out.below hb8)
          have bS8b := Lib.hid (bS8a.out.below hb8)
          have bP8b := Lib.hid (bP8a.out.below hb8)
          have hO8b := Lib.hid (ownsRow_below hO8a.out hb8)
          have hS8b := Lib.hid (hS8a.out.below hb8)
          have hk8d := Lib.hid (hk8c.out.then hlt hb8)
          have q0 := bP8b.out.cell 0 _ rfl
          have q1 := bP8b.out.cell 1 _ rfl
          have f0 := bP8b.out.froz 0
          have f1 := bP8b.out.froz 1
          have lq := bP8b.out.lt
          clear hb8 bR8a bS8a bP8a hO8a hS8a hk8c lp8
          repeat (first | ((with_reducible refine wpK_p (fun K hK => ?_)); go_simp; refine hK _ ?_; clear hK K) | ((with_reducible refine wpK_q (fun K hK => ?_)); go_simp; (first | refine hK _ ?_ | (go_bits; refine hK _ ?_) | (go_bits; go_simp; refine hK _ ?_)); clear hK K))
          with_reducible refine wpK_b (fun K hK => ?_)
          go_simp
          refine hK _ _ ?_
          clear hK K
          repeat (first | ((with_reducible refine wpK_p (fun K hK => ?_)); go_simp; refine hK _ ?_; clear hK K) | ((with_reducible refine wpK_q (fun K hK => ?_)); go_simp; (first | refine hK _ ?_ | (go_bits; refine hK _ ?_) | (go_bits; go_simp; refine hK _ ?_)); clear hK K))
          with_reducible refine wpK_nil ?_
          obtain ⟨X8, hX8⟩ : ∃ z, z = stepX X6 vd := ⟨_, rfl⟩
          obtain ⟨Y8, hY8⟩ : ∃ z, z = stepY Y6 vd := ⟨_, rfl⟩
          have bX8 := stepX_b (d := vd) bX6
          have bY8 := stepY_b (d := vd) bY6
          rw [← hX8] at bX8 ⊢
          rw [← hY8] at bY8 ⊢
          have hP8 := Lib.hid (((Below.refl w2.heap.size w8b).setCell (p := ⟨w2.heap.size, 0, none⟩) (Nat.le_refl _) (.int .i64 X8)).setCell (p := ⟨w2.heap.size, 1, none⟩) (Nat.le_refl _) (.int .i64 Y8))
          have bR8 := Lib.hid (bR8b.out.belowB (by omega) hP8.out)
          have bS8 := Lib.hid (bS8b.out.belowB (by omega) hP8.out)
          have bP8 : Hid (Bx ((w8b.setCell ⟨w2.heap.size, 0, none⟩ (.int .i64 X8)).setCell ⟨w2.heap.size, 1, none⟩ (.int .i64 Y8)) w2.heap.size [.int .i64 X8, .int .i64 Y8]) := Lib.hid ((bP8b.out.setSame 0 (.int .i64 X8)).setSame 1 (.int .i64 Y8))
          have hS8 := Lib.hid (hS8b.out.belowB (by omega) hP8.out)
          have hk8 := Lib.hid (hk8d.out.thenB hlt (hP8.out.mono (by omega)))
          have hO8 := Lib.hid (ownsRow_setB (ownsRow_setB hO8b.out (by simp) (.int .i64 X8) (p := ⟨w2.heap.size, 0, none⟩)) (by simp) (.int .i64 Y8) (p := ⟨w2.heap.size, 1, none⟩))
          obtain ⟨w8, hw8⟩ : ∃ W, W = (w8b.setCell ⟨w2.heap.size, 0, none⟩ (.int .i64 X8)).setCell ⟨w2.heap.size, 1, none⟩ (.int .i64 Y8) := ⟨_, rfl⟩
          rw [← hw8] at bR8 bS8 bP8 hS8 hk8 hO8 ⊢
          clear hw8 hP8 bR8b bS8b bP8b hS8b hk8d hO8b q0 q1 f0 f1 lq hX8 hY8
          go_wp2
          go_roundg r
          case measure => omega
          case rel => exact ⟨r, xs, A, c, X8, Y8, Nat.le_refl _, by omega, by go_num, Lib.hid (by rw [hn, hBn']; exact hD.out.more (by omega) (by omega)), Lib.hid (by rw [hn, hBn']; exact ⟨⟨by omega, by omega⟩, by omega, by omega⟩), hO8, Lib.hid (hS8.out.more (by omega)), hk8, bR8, bS8, bP8⟩
end Go.Proofs.YtmhgjgclclnmaaaGreat
/- The rule for regions that draw their order, when one laying of a block may come up at any time among the others. -/

namespace Go.Proofs.YtmhgjgclclnmaaaGreat
open Go.RowKit
/-- The block may be laid between two steps: st is the block, if it has been laid. -/
def Mv (z : Obj) (st : Option Nat) (w : World) (st' : Option Nat) (W : World) : Prop := (st' = st ∧ W = w) ∨ (st = none ∧ st' = some w.heap.size ∧ W = w.alloc z)
theorem Mv.below {z : Obj} {st st' : Option Nat} {w W : World} (h : Mv z st w st' W) : Below w.heap.size w W := by
  rcases h with ⟨_, rfl⟩ | ⟨_, _, rfl⟩
  · exact Below.refl _ _
  · exact (Below.refl _ _).alloc (Nat.le_refl _) _
/-- what is known of the block -/
def FlAt (z : Obj) (lo : Nat) (st : Option Nat) (w : World) : Prop := lo ≤ w.heap.size ∧ ∀ b, st = some b → lo ≤ b ∧ w.heap[b]? = some z
theorem FlAt.none (z : Obj) (w : World) : FlAt z w.heap.size .none w := ⟨Nat.le_refl _, fun b h => by cases h⟩
theorem FlAt.mv {z : Obj} {lo : Nat} {st st' : Option Nat} {w W : World} (h : FlAt z lo st w) (hm : Mv z st w st' W) : FlAt z lo st' W := by
  rcases hm with ⟨rfl, rfl⟩ | ⟨rfl, rfl, rfl⟩
  · exact h
  · refine ⟨Nat.le_trans h.1 (by simp), fun b hb => ?_⟩
    injection hb with hb
    subst hb
    exact ⟨h.1, by show (w.heap.push z)[w.heap.size]? = some z; simp⟩
theorem FlAt.below {z : Obj} {lo : Nat} {st : Option Nat} {w W : World} (h : FlAt z lo st w) (hb : Below w.heap.size w W) : FlAt z lo st W :=
  ⟨Nat.le_trans h.1 hb.size, fun b e => ⟨(h.2 b e).1, (hb.block b ((Array.getElem?_eq_some_iff.1 (h.2 b e).2).1)).trans (h.2 b e).2⟩⟩
theorem FlAt.lt {z : Obj} {lo b : Nat} {w : World} (h : FlAt z lo (some b) w) : b < w.heap.size := (Array.getElem?_eq_some_iff.1 (h.2 b rfl).2).1
/-- the block is none of a step's own -/
def FlOut (lo hi : Nat) (st : Option Nat) : Prop := ∀ b, st = some b → b < lo ∨ hi ≤ b
theorem FlOut.of {z : Obj} {lo : Nat} {st : Option Nat} {w : World} (h : FlAt z lo st w) (hi : Nat) : FlOut w.heap.size hi st := fun b e => by subst e; exact .inl h.lt
theorem FlOut.mv {z : Obj} {lo hi : Nat} {st st' : Option Nat} {w W : World} (h : FlOut lo hi st) (hm : Mv z st w st' W) (hh : hi ≤ w.heap.size) : FlOut lo hi st' := by
  rcases hm with ⟨rfl, rfl⟩ | ⟨rfl, rfl, rfl⟩
  · exact h
  · intro b e; injection e with e; subst e; exact .inr hh
section
variable {P : Program} {ops : Array Oper}
def wpL (P : Program) (ops : Array Oper) (z : Obj) (F : Nat → Act → World → Prop) : List (Oper × Tag) → Option Nat → Act → World → Prop
  | [], st, a, w => ∀ b W, Mv z st w (some b) W → F b a W
  | (o, .q) :: rest, st, a, w =>
    if Region.wanted o (yielded ops a.tmps) then ∃ v, (∀ p : BelowBy w, stillUpon p.world v ((execOp a.eval o).run P p.world)) ∧ wpL P ops z F rest st (a.put o.dst v) w
    else wpL P ops z F rest st (a.put o.dst undef) w
  | (o, .p) :: rest, st, a, w =>
    if Region.wanted o (yielded ops a.tmps) then ∃ v, (∀ W : World, stillUpon W v ((execOp a.eval o).run P W)) ∧ wpL P ops z F rest st (a.put o.dst v) w
    else wpL P ops z F rest st (a.put o.dst undef) w
  | (o, .g) :: rest, st, a, w =>
    if Region.wanted o (yielded ops a.tmps) then ∀ st' W, Mv z st w st' W → givesUpon P (fun v w' => Below W.heap.size W w' ∧ wpL P ops z F rest st' (a.put o.dst v) w') ((execOp a.eval o).run P W)
    else wpL P ops z F rest st (a.put o.dst undef) w
  | (_, .b) :: _, _, _, _ => False
variable {z : Obj} {F : Nat → Act → World → Prop}
theorem wpL_q {o : Oper} {rest : List (Oper × Tag)} {st : Option Nat} {a : Act} {w : World}
    (h : ∀ K : Act → Prop, (∀ a, wpL P ops z F rest st a w → K a) → if Region.wanted o (yielded ops a.tmps) then ∃ v, (∀ p : BelowBy w, stillUpon p.world v ((execOp a.eval o).run P p.world)) ∧ K (a.put o.dst v) else K (a.put o.dst undef)) :
    wpL P ops z F ((o, .q) :: rest) st a w := h _ fun _ h => h
theorem wpL_p {o : Oper} {rest : List (Oper × Tag)} {st : Option Nat} {a : Act} {w : World}
    (h : ∀ K : Act → Prop, (∀ a, wpL P ops z F rest st a w → K a) → if Region.wanted o (yielded ops a.tmps) then ∃ v, (∀ W : World, stillUpon W v ((execOp a.eval o).run P W)) ∧ K (a.put o.dst v) else K (a.put o.dst undef)) :
    wpL P ops z F ((o, .p) :: rest) st a w := h _ fun _ h => h
theorem wpL_g {o : Oper} {rest : List (Oper × Tag)} {st : Option Nat} {a : Act} {w : World} (hgd : o.guard = none)
    (h : ∀ K : Option Nat → Act → World → Prop, (∀ st' a w', wpL P ops z F rest st' a w' → K st' a w') → ∀ st' W, Mv z st w st' W → givesUpon P (fun v w' => Grew W w' ∧ K st' (a.put o.dst v) w') ((execOp a.eval o).run P W)) :
    wpL P ops z F ((o, .g) :: rest) st a w := by
  have hw : Region.wanted o (yielded ops a.tmps) = true := by simp [Region.wanted, hgd]
  simp only [wpL, hw, if_true]
  exact h _ fun _ _ _ h => h
theorem wpL_nil {st : Option Nat} {a : Act} {w : World} (h : ∀ b W, Mv z st w (some b) W → F b a W) : wpL P ops z F [] st a w := h

theorem wpL_alloc : ∀ (l : List (Oper × Tag)) (a : Act) (w : World), wpL P ops z F l none a w → wpL P ops z F l (some w.heap.size) a (w.alloc z)
  | [], a, w, h => fun b W hm => h b W (by
      rcases hm with ⟨e, rfl⟩ | ⟨e, _, _⟩
      · exact .inr ⟨rfl, e, rfl⟩
      · cases e)
  | (o, .q) :: rest, a, w, h => by
    simp only [wpL] at h ⊢
    split at h <;> rename_i hw <;> simp only [hw, if_true, if_false, Bool.false_eq_true]
    · obtain ⟨v, h1, h2⟩ := h
      exact ⟨v, fun p => h1 ⟨p.world, ((Below.refl _ _).alloc (Nat.le_refl _) z).trans (p.h.mono (by simp))⟩, wpL_alloc rest _ _ h2⟩
    · exact wpL_alloc rest _ _ h
  | (o, .p) :: rest, a, w, h => by
    simp only [wpL] at h ⊢
    split at h <;> rename_i hw <;> simp only [hw, if_true, if_false, Bool.false_eq_true]
    · obtain ⟨v, h1, h2⟩ := h
      exact ⟨v, h1, wpL_alloc rest _ _ h2⟩
    · exact wpL_alloc rest _ _ h
  | (o, .g) :: rest, a, w, h => by
    simp only [wpL] at h ⊢
    split at h <;> rename_i hw <;> simp only [hw, if_true, if_false, Bool.false_eq_true]
    · intro st' W hm
      refine h st' W ?_
      rcases hm with ⟨e, rfl⟩ | ⟨e, _, _⟩
      · exact .inr ⟨rfl, e, rfl⟩
      · cases e
    · exact wpL_alloc rest _ _ h
  | (o, .b) :: rest, a, w, h => h

theorem exchL {oj : Oper} {tj : Tag} {post : List (Oper × Tag)} (hsj : ∀ cs b, oj.op ≠ .select cs b) (st : Option Nat) : ∀ (pre : List (Oper × Tag)) (a : Act) (w : World),
    (∀ x ∈ pre, (x.2 = .q ∨ x.2 = .p) ∧ x.1.apart ops oj = true ∧ ∀ cs b, x.1.op ≠ .select cs b) → wpL P ops z F (pre ++ (oj, tj) :: post) st a w →
    opStep P ops oj (fun v w' => Below w.heap.size w w' ∧ wpL P ops z F (pre ++ post) st (a.put oj.dst v) w') a w
  | [], a, w, _, h => by
    unfold opStep
    simp only [List.nil_append] at h ⊢
    cases tj <;> simp only [wpL] at h
    · split at h <;> rename_i hw <;> simp only [hw, if_true, if_false, Bool.false_eq_true]
      · obtain ⟨v, h1, h2⟩ := h
        exact givesUpon_of_still (h1 ⟨w, Below.refl _ _⟩) ⟨Below.refl _ _, h2⟩
      · exact ⟨Below.refl _ _, h⟩
    · split at h <;> rename_i hw <;> simp only [hw, if_true, if_false, Bool.false_eq_true]
      · exact h st w (.inl ⟨rfl, rfl⟩)
      · exact ⟨Below.refl _ _, h⟩
    · split at h <;> rename_i hw <;> simp only [hw, if_true, if_false, Bool.false_eq_true]
      · obtain ⟨v, h1, h2⟩ := h
        exact givesUpon_of_still (h1 w) ⟨Below.refl _ _, h2⟩
      · exact ⟨Below.refl _ _, h⟩
  | (op, t) :: pre, a, w, hp, h => by
    obtain ⟨ht, hap, hsp⟩ := hp (op, t) (by simp)
    simp only at ht hap hsp
    obtain ⟨h1, h2, h3⟩ := Oper.apart_spec hap
    have hp' : ∀ x ∈ pre, (x.2 = .q ∨ x.2 = .p) ∧ x.1.apart ops oj = true ∧ ∀ cs b, x.1.op ≠ .select cs b := fun x hx => hp x (by simp [hx])
    have key : ∀ v, (∀ w', Below w.heap.size w w' → ∀ u, wpL P ops z F (pre ++ post) st ((a.put oj.dst u).put op.dst v) w' → wpL P ops z F ((op, t) :: (pre ++ post)) st (a.put oj.dst u) w') →
        wpL P ops z F (pre ++ (oj, tj) :: post) st (a.put op.dst v) w → opStep P ops oj (fun v w' => Below w.heap.size w w' ∧ wpL P ops z F ((op, t) :: pre ++ post) st (a.put oj.dst v) w') a w := by
      intro v hk hh
      have ih := exchL hsj st pre (a.put op.dst v) w hp' hh
      unfold opStep at ih ⊢
      rw [wanted_put oj a op.dst v h1, execOp_put oj hsj a op.dst v h1] at ih
      split at ih <;> rename_i hw <;> simp only [hw, if_true, if_false, Bool.false_eq_true]
      · refine givesUpon_mono ih fun u w' hh' => ⟨hh'.1, hk w' hh'.1 u ?_⟩
        rw [← Act.put_comm a v u h2]; exact hh'.2
      · refine ⟨ih.1, hk w (Below.refl _ _) undef ?_⟩
        rw [← Act.put_comm a v undef h2]; exact ih.2
    rcases ht with rfl | rfl
    · simp only [List.cons_append, wpL] at h
      split at h
      · rename_i hw
        obtain ⟨v, hv, hrest⟩ := h
        refine key v (fun w' hbw u hr => ?_) hrest
        simp only [wpL]
        rw [wanted_put op a oj.dst u h3, if_pos hw, execOp_put op hsp a oj.dst u h3]
        exact ⟨v, fun p => hv ⟨p.world, hbw.trans (p.h.mono hbw.size)⟩, hr⟩
      · rename_i hw
        refine key undef (fun w' hbw u hr => ?_) h
        simp only [wpL]
        rw [wanted_put op a oj.dst u h3, if_neg hw]
        exact hr
    · simp only [List.cons_append, wpL] at h
      split at h
      · rename_i hw
        obtain ⟨v, hv, hrest⟩ := h
        refine key v (fun w' hbw u hr => ?_) hrest
        simp only [wpL]
        rw [wanted_put op a oj.dst u h3, if_pos hw, execOp_put op hsp a oj.dst u h3]
        exact ⟨v, hv, hr⟩
      · rename_i hw
        refine key undef (fun w' hbw u hr => ?_) h
        simp only [wpL]
        rw [wanted_put op a oj.dst u h3, if_neg hw]
        exact hr

def flPtr (b : Nat) : Value := .pointer (some ⟨b, 0, none⟩)
def realAct (fo : Oper) (st : Option Nat) (a : Act) : Act := match st with
  | none => a
  | some b => a.put fo.dst (flPtr b)

theorem wpL_toD {Q : Act → World → Prop} {fo : Oper} {pb : List (Oper × Tag)} {b : Nat} : ∀ (l : List (Oper × Tag)) (a : Act) (w : World), (∀ x ∈ l, x.2 = .p ∧ fo.apart ops x.1 = true ∧ ∀ cs b, x.1.op ≠ .select cs b) →
    wpL P ops z (fun b a w => wpD P ops Q pb (a.put fo.dst (flPtr b)) w) l (some b) a w → wpD P ops Q (l ++ pb) (a.put fo.dst (flPtr b)) w
  | [], a, w, _, h => h b w (.inl ⟨rfl, rfl⟩)
  | (o, t) :: rest, a, w, hp, h => by
    obtain ⟨ht, hap, hsp⟩ := hp (o, t) (by simp)
    simp only at ht hap hsp
    subst ht
    obtain ⟨p1, p2, p3⟩ := Oper.apart_spec hap
    have hp' : ∀ x ∈ rest, x.2 = .p ∧ fo.apart ops x.1 = true ∧ ∀ cs b, x.1.op ≠ .select cs b := fun x hx => hp x (by simp [hx])
    simp only [List.cons_append, wpD]
    simp only [wpL] at h
    rw [wanted_put o a fo.dst (flPtr b) p1, execOp_put o hsp a fo.dst (flPtr b) p1]
    split at h <;> rename_i hw <;> simp only [hw, if_true, if_false, Bool.false_eq_true]
    · obtain ⟨v, h1, h2⟩ := h
      refine ⟨v, h1, ?_⟩
      rw [Act.put_comm a (flPtr b) v p2]
      exact wpL_toD rest _ _ hp' h2
    · rw [Act.put_comm a (flPtr b) undef p2]
      exact wpL_toD rest _ _ hp' h

theorem rem_set {ord : List (Nat × Tag)} {listed : Array Bool} {i : Nat} (h : ∀ y ∈ ord, y.1 ≠ i) : rem ord (listed.setIfInBounds i true) = rem ord listed := by
  unfold rem
  apply List.filter_congr
  intro y hy
  rw [getD_set_ne true (fun e => h y hy e.symm)]

theorem fl_sound {Q : Exit → Act → World → Prop} (fi : Nat) (fo : Oper) (A B : List (Nat × Tag)) (hsel : Region.noSelect ops = true) (hcov : ∀ i, i < ops.size → ∃ x ∈ (fi, Tag.p) :: (A ++ B), x.1 = i)
    (hpw : ((fi, Tag.p) :: (A ++ B)).Pairwise (Rel2 ops)) (hsome : ∀ y ∈ (fi, Tag.p) :: (A ++ B), (ops[y.1]?).isSome = true) (htop : ∀ pre y post, (fi, Tag.p) :: (A ++ B) = pre ++ y :: post → ∀ d ∈ depsOf ops y.1, ∃ x ∈ pre, x.1 = d)
    (hfo : ops[fi]? = some fo) (hap : ∀ y ∈ A, apartB ops fi y.1 = true) (hA : ∀ y ∈ A, y.2 ≠ .b) (hanc : ∀ y ∈ B, Anc ops y.1 fi ∧ ∀ x ∈ A, x.2 ≠ .p → Anc ops y.1 x.1)
    (hrun : ∀ (a : Act) (w : World), Region.wanted fo (yielded ops a.tmps) = true ∧ (execOp a.eval fo).run P w = .ok (.value (flPtr w.heap.size)) (w.alloc z)) :
    ∀ (m : Nat) (listed : Array Bool) (st : Option Nat) (a : Act) (w : World), (rem A listed).length + (if listed.getD fi true then 0 else 1) = m → (∀ y ∈ B, listed.getD y.1 true = false) → Ideal ops listed → st.isSome = listed.getD fi true →
      wpL P ops z (fun b a w => wpD P ops (Q .normal) (pick ops B) (a.put fo.dst (flPtr b)) w) (pick ops (rem A listed)) st a w → wpAny P .any ops Q (B.length + m) listed (realAct fo st a) w := by
  have hlt : ∀ y ∈ (fi, Tag.p) :: (A ++ B), y.1 < ops.size := fun y hy => by
    have := hsome y hy
    rw [Option.isSome_iff_exists] at this
    obtain ⟨o, ho⟩ := this
    exact (Array.getElem?_eq_some_iff.1 ho).1
  obtain ⟨hpf, hpAB⟩ := List.pairwise_cons.1 hpw
  obtain ⟨hpA, hpB, hpX⟩ := List.pairwise_append.1 hpAB
  intro m
  have hdone : ∀ (m : Nat) (listed : Array Bool) (st : Option Nat) (a : Act) (w : World), (rem A listed).length + (if listed.getD fi true then 0 else 1) = m → (∀ y ∈ B, listed.getD y.1 true = false) → Ideal ops listed → st.isSome = listed.getD fi true →
      wpL P ops z (fun b a w => wpD P ops (Q .normal) (pick ops B) (a.put fo.dst (flPtr b)) w) (pick ops (rem A listed)) st a w → listed.getD fi true = true → (∀ y ∈ rem A listed, y.2 = .p) → wpAny P .any ops Q (B.length + m) listed (realAct fo st a) w := by
    intro m listed st a w hm hBl hid hst h hfl hallp
    rw [hfl] at hst hm
    obtain ⟨b, rfl⟩ := Option.isSome_iff_exists.1 hst
    have hD := wpL_toD (pick ops (rem A listed)) a w (by
      intro u hu
      obtain ⟨y, hy, hyz⟩ := List.mem_filterMap.1 hu
      have hyA := (List.mem_filter.1 hy).1
      obtain ⟨oy, hoy⟩ := Option.isSome_iff_exists.1 (hsome y (by simp [hyA]))
      rw [hoy] at hyz
      simp only [Option.map_some, Option.some.injEq] at hyz
      subst hyz
      refine ⟨hallp y hy, ?_, fun cs b => Region.noSelect_spec hsel y.1 oy cs b hoy⟩
      have := hap y hyA
      unfold apartB at this
      rw [hfo, hoy] at this
      exact this) h
    have hremB : rem ((fi, Tag.p) :: (A ++ B)) listed = rem A listed ++ B := by
      have e1 : rem ((fi, Tag.p) :: (A ++ B)) listed = rem A listed ++ rem B listed := by
        unfold rem
        rw [List.filter_cons, List.filter_append]
        simp [hfl]
      rw [e1]
      congr 1
      exact List.filter_eq_self.2 fun y hy => by rw [hBl y hy]; rfl
    exact ord_sound (P := P) (Q := Q) _ hsel hcov hpw hsome htop (B.length + m) listed _ w (by rw [hremB, List.length_append]; simp at hm; omega) hid (by
      rw [hremB]
      unfold pick at hD ⊢
      rw [List.filterMap_append]; exact hD)
  induction m with
  | zero =>
    intro listed st a w hm hBl hid hst h
    have hnil : rem A listed = [] := List.eq_nil_of_length_eq_zero (by omega)
    have hfl : listed.getD fi true = true := by
      cases hf : listed.getD fi true
      · rw [hf] at hm; simp at hm
      · rfl
    exact hdone 0 listed st a w hm hBl hid hst h hfl (fun y hy => by rw [hnil] at hy; cases hy)
  | succ m ih =>
    intro listed st a w hm hBl hid hst h
    by_cases hdn : listed.getD fi true = true ∧ ∀ y ∈ rem A listed, y.2 = .p
    · exact hdone (m + 1) listed st a w hm hBl hid hst h hdn.1 hdn.2
    refine ⟨fun h0 => ?_, fun j hj => ?_⟩
    · exfalso
      obtain ⟨y, rest, hrem⟩ : ∃ y rest, rem ((fi, Tag.p) :: (A ++ B)) listed = y :: rest := by
        cases hr : rem ((fi, Tag.p) :: (A ++ B)) listed with
        | nil =>
          exfalso
          have e : ∀ y ∈ (fi, Tag.p) :: (A ++ B), listed.getD y.1 true = true := fun y hy => by
            cases hv : listed.getD y.1 true
            · have : y ∈ rem ((fi, Tag.p) :: (A ++ B)) listed := List.mem_filter.2 ⟨hy, by rw [hv]; rfl⟩
              rw [hr] at this; cases this
            · rfl
          have e1 := e (fi, .p) (by simp)
          have e2 : rem A listed = [] := List.filter_eq_nil_iff.2 fun y hy => by rw [e y (by simp [hy])]; simp
          simp only at e1
          rw [e1, e2] at hm
          simp at hm
        | cons y rest => exact ⟨y, rest, rfl⟩
      obtain ⟨pre, post, hord, hpre⟩ := List.filter_eq_cons_iff.1 hrem
      have hy : y ∈ (fi, Tag.p) :: (A ++ B) := by rw [hord]; simp
      obtain ⟨o, ho⟩ := Option.isSome_iff_exists.1 (hsome y hy)
      have hun : listed.getD y.1 true = false := by
        have : y ∈ rem ((fi, Tag.p) :: (A ++ B)) listed := by rw [hrem]; simp
        simpa using (List.mem_filter.1 this).2
      have : y.1 ∈ Region.ready .any ops listed := ready_of ho hun fun d hd => by
        obtain ⟨x, hx, rfl⟩ := htop pre y post hord d hd
        have h1 := hpre.1 x hx
        have hxl : x.1 < listed.size := by rw [hid.size]; exact hlt x (by rw [hord]; simp [hx])
        rw [← getD_tf hxl]
        simpa using h1
      rw [h0] at this
      cases this
    · obtain ⟨h1, h2, h3⟩ := ready_deps hj
      have hset : ∀ i, (∀ d ∈ depsOf ops i, listed.getD d false = true) → Ideal ops (listed.setIfInBounds i true) := fun i h3 => by
        refine ⟨by simp [hid.size], fun y hy d hd => ?_⟩
        by_cases hxy : i = y
        · subst hxy; exact getD_set_true (h3 d hd)
        · rw [getD_set_ne false hxy] at hy
          exact getD_set_true (hid.closed y hy d hd)
      obtain ⟨x, hx, rfl⟩ := hcov j h1
      rcases List.mem_cons.1 hx with rfl | hx'
      · -- the block is laid
        have hn : st = none := by
          simp only at h2
          rw [h2] at hst
          cases st
          · rfl
          · cases hst
        subst hn
        refine wpOp_of_step hfo ?_
        unfold opStep
        obtain ⟨hw, hr⟩ := hrun (realAct fo none a) w
        rw [if_pos hw, hr]
        have hne : ∀ y ∈ A, y.1 ≠ fi := fun y hy e => (hpf y (by simp [hy])).ne e.symm
        have hneB : ∀ y ∈ B, fi ≠ y.1 := fun y hy e => (hpf y (by simp [hy])).ne e
        have hl : fi < listed.size := by rw [hid.size]; exact h1
        have := ih (listed.setIfInBounds fi true) (some w.heap.size) a (w.alloc z) (by
            rw [rem_set hne]
            simp only at h2
            rw [h2] at hm
            simp [hl]
            simpa using hm) (fun y hy => by rw [getD_set_ne true (hneB y hy)]; exact hBl y hy) (hset fi h3) (by simp [hl]) (by rw [rem_set hne]; exact wpL_alloc _ _ _ h)
        exact this
      · rcases List.mem_append.1 hx' with hxA | hxB
        · have hxr : x ∈ rem A listed := List.mem_filter.2 ⟨hxA, by simpa using h2⟩
          obtain ⟨pre, post, hsplit⟩ := List.append_of_mem hxr
          have hpwr : (rem A listed).Pairwise (Rel2 ops) := hpA.filter _
          rw [hsplit, List.pairwise_append] at hpwr
          obtain ⟨_, hpc, hcross⟩ := hpwr
          obtain ⟨oj, hoj⟩ := Option.isSome_iff_exists.1 (hsome x hx)
          have hpre : ∀ y ∈ pre, Rel2 ops y x ∧ listed.getD y.1 false = false ∧ y ∈ A := fun y hy => by
            have hyr : y ∈ rem A listed := by rw [hsplit]; simp [hy]
            obtain ⟨hyo, hyu⟩ := List.mem_filter.1 hyr
            have hyl : y.1 < listed.size := by rw [hid.size]; exact hlt y (by simp [hyo])
            exact ⟨hcross y hy x (by simp), by rw [← getD_tf hyl]; simpa using hyu, hyo⟩
          have hno : ∀ y ∈ pre, ¬ Anc ops x.1 y.1 := fun y hy ha => by
            have := hid.anc ha h3
            rw [(hpre y hy).2.1] at this
            cases this
          have hsj : ∀ cs b, oj.op ≠ .select cs b := fun cs b => Region.noSelect_spec hsel x.1 oj cs b hoj
          have hstep := exchL (P := P) (ops := ops) (z := z) (F := fun b a w => wpD P ops (Q .normal) (pick ops B) (a.put fo.dst (flPtr b)) w) (oj := oj) (tj := x.2) (post := pick ops post) hsj st (pick ops pre) a w
            (by
              intro u hu
              obtain ⟨y, hy, hyz⟩ := List.mem_filterMap.1 hu
              obtain ⟨oy, hoy⟩ := Option.isSome_iff_exists.1 (hsome y (by simp [(hpre y hy).2.2]))
              rw [hoy] at hyz
              simp only [Option.map_some, Option.some.injEq] at hyz
              subst hyz
              refine ⟨?_, ?_, fun cs b => Region.noSelect_spec hsel y.1 oy cs b hoy⟩
              · cases hq : y.2 with
                | q => exact Or.inl rfl
                | p => exact Or.inr rfl
                | g => exact absurd ((hpre y hy).1.anc (by rw [hq]; rfl)) (hno y hy)
                | b => exact absurd ((hpre y hy).1.anc (by rw [hq]; rfl)) (hno y hy)
              · rcases (hpre y hy).1.apart with hd | hd
                · exact absurd (.one hd) (hno y hy)
                · unfold apartB at hd
                  rw [hoy, hoj] at hd
                  exact hd)
            (by
              have e : pick ops (rem A listed) = pick ops pre ++ (oj, x.2) :: pick ops post := by
                rw [hsplit]; unfold pick; simp [List.filterMap_append, hoj]
              rw [← e]; exact h)
          have hfx : fi ≠ x.1 := fun e => (hpf x hx').ne e
          have hrem' : rem A (listed.setIfInBounds x.1 true) = pre ++ post := by
            have hx1 : x.1 < listed.size := by rw [hid.size]; exact h1
            have e1 : rem A (listed.setIfInBounds x.1 true) = (rem A listed).filter fun y => y.1 != x.1 := by
              unfold rem
              rw [List.filter_filter]
              apply List.filter_congr
              intro y hy
              by_cases hyx : x.1 = y.1
              · rw [← hyx]; simp [hx1]
              · have hne : (y.1 != x.1) = true := by simpa using fun h => hyx h.symm
                rw [getD_set_ne true hyx, hne]; simp
            rw [e1, hsplit, List.filter_append, List.filter_cons]
            have hp : pre.filter (fun y => y.1 != x.1) = pre := List.filter_eq_self.2 fun y hy => by simpa using (hpre y hy).1.ne
            have hq : post.filter (fun y => y.1 != x.1) = post := List.filter_eq_self.2 fun y hy => by
              have := (List.pairwise_cons.1 hpc).1 y hy
              simpa using fun e => this.ne e.symm
            rw [hp, hq]; simp
          have hlen : (pre ++ post).length + 1 = (rem A listed).length := by rw [hsplit]; simp; omega
          have e2 : ∀ v w', wpL P ops z (fun b a w => wpD P ops (Q .normal) (pick ops B) (a.put fo.dst (flPtr b)) w) (pick ops pre ++ pick ops post) st (a.put oj.dst v) w' →
              wpAny P .any ops Q (B.length + m) (listed.setIfInBounds x.1 true) (realAct fo st (a.put oj.dst v)) w' := fun v w' hh =>
            ih _ st _ _ (by rw [hrem', getD_set_ne true (fun e => hfx e.symm)]; omega) (fun y hy => by rw [getD_set_ne true (hpX x hxA y hy).ne]; exact hBl y hy) (hset x.1 h3) (by rw [getD_set_ne true (fun e => hfx e.symm)]; exact hst)
              (by rw [hrem']; unfold pick at hh ⊢; rw [List.filterMap_append]; exact hh)
          have hapx := hap x hxA
          unfold apartB at hapx
          rw [hfo, hoj] at hapx
          obtain ⟨p1, p2, p3⟩ := Oper.apart_spec hapx
          refine wpOp_of_step hoj ?_
          cases st with
          | none =>
            show opStep P ops oj (fun v w' => wpAny P .any ops Q (B.length + m) (listed.setIfInBounds x.1 true) (a.put oj.dst v) w') a w
            unfold opStep at hstep ⊢
            split at hstep <;> rename_i hw <;> simp only [hw, if_true, if_false, Bool.false_eq_true]
            · exact givesUpon_mono hstep fun v w' hh => e2 v w' hh.2
            · exact e2 _ _ hstep.2
          | some b =>
            show opStep P ops oj (fun v w' => wpAny P .any ops Q (B.length + m) (listed.setIfInBounds x.1 true) ((a.put fo.dst (flPtr b)).put oj.dst v) w') (a.put fo.dst (flPtr b)) w
            unfold opStep at hstep ⊢
            rw [wanted_put oj a fo.dst (flPtr b) p1, execOp_put oj hsj a fo.dst (flPtr b) p1]
            split at hstep <;> rename_i hw <;> simp only [hw, if_true, if_false, Bool.false_eq_true]
            · exact givesUpon_mono hstep fun v w' hh => by rw [Act.put_comm a (flPtr b) v p2]; exact e2 v w' hh.2
            · rw [Act.put_comm a (flPtr b) undef p2]; exact e2 _ _ hstep.2
        · exfalso
          obtain ⟨ha1, ha2⟩ := hanc x hxB
          have hfl := hid.anc ha1 h3
          have hf1 : listed.getD fi true = true := by
            rw [getD_tf (by rw [hid.size]; exact hlt (fi, .p) (by simp))]; exact hfl
          refine hdn ⟨hf1, fun y hy => ?_⟩
          obtain ⟨hyA, hyl⟩ := List.mem_filter.1 hy
          cases hq : y.2 with
          | p => rfl
          | _ =>
            have := hid.anc (ha2 y hyA (by rw [hq]; decide)) h3
            rw [getD_tf (by rw [hid.size]; exact hlt y (by simp [hyA])), this] at hyl
            cases hyl

def toQ (l : List (Nat × Tag)) (t : Tag) : List (Nat × Tag) := l.map fun x => (x.1, if x.2 = .p then .p else t)
def toB (l : List (Nat × Tag)) : List (Nat × Tag) := l.map fun x => (x.1, .b)
/-- **The rule.** -/
theorem wp_region_fl {id : Nat} {Q : Exit → Act → World → Prop} {a : Act} {w : World} {l : List Oper} (fi : Nat) (A B : List (Nat × Tag)) (fo : Oper) (z : Obj) (hm : P.follows .mixedOrders = true)
    (hB : ordB l.toArray ((fi, .p) :: (A ++ B)) = true) (hB2 : ordB l.toArray ((fi, .q) :: (toQ A .q ++ toB B)) = true) (hA : (A.all fun x => x.2 != .b && apartB l.toArray fi x.1) = true) (hfo : l.toArray[fi]? = some fo)
    (hrun : ∀ (a : Act) (w : World), Region.wanted fo (yielded l.toArray a.tmps) = true ∧ (execOp a.eval fo).run P w = .ok (.value (flPtr w.heap.size)) (w.alloc z))
    (h : wpL P l.toArray z (fun b a w => wpD P l.toArray (Q .normal) (pick l.toArray B) (a.put fo.dst (flPtr b)) w) (pick l.toArray A) none a w.drew) : (Code.region id l.toArray true).wp P Q a w := by
  have hanc : ∀ y ∈ B, Anc l.toArray y.1 fi ∧ ∀ x ∈ A, x.2 ≠ .p → Anc l.toArray y.1 x.1 := by
    simp only [ordB, Bool.and_eq_true, beq_iff_eq] at hB2
    obtain ⟨hpw, _, _, _⟩ := ordFrom_spec _ [] hB2.2 (fun _ h => by cases h)
    obtain ⟨hpf, hpAB⟩ := List.pairwise_cons.1 hpw
    obtain ⟨_, _, hpX⟩ := List.pairwise_append.1 hpAB
    intro y hy
    have hyB : (y.1, Tag.b) ∈ toB B := List.mem_map.2 ⟨y, hy, rfl⟩
    exact ⟨(hpf (y.1, .b) (by simp [hyB])).anc rfl, fun x hx hxp => (hpX (x.1, .q) (List.mem_map.2 ⟨x, hx, by rw [if_neg hxp]⟩) (y.1, .b) hyB).anc rfl⟩
  simp only [ordB, Bool.and_eq_true, beq_iff_eq] at hB
  obtain ⟨⟨⟨hsel, hlen⟩, hcov⟩, hfrom⟩ := hB
  obtain ⟨hpw, _, hsome, htop⟩ := ordFrom_spec _ [] hfrom (fun _ h => by cases h)
  refine wp_region_any hm ?_
  have hun : ∀ y ∈ (fi, Tag.p) :: (A ++ B), (Array.replicate l.toArray.size false).getD y.1 true = false := fun y hy => by
    obtain ⟨o, ho⟩ := Option.isSome_iff_exists.1 (hsome y hy)
    have := (Array.getElem?_eq_some_iff.1 ho).1
    simp at this
    simp [this]
  have hremA : rem A (Array.replicate l.toArray.size false) = A := List.filter_eq_self.2 fun y hy => by rw [hun y (by simp [hy])]; rfl
  have hf0 := hun (fi, .p) (by simp)
  simp only at hf0
  have hs := fl_sound (P := P) (Q := Q) (z := z) fi fo A B hsel (fun i hi => by
    have := List.all_eq_true.1 hcov i (List.mem_range.2 hi)
    obtain ⟨x, hx, hxi⟩ := List.any_eq_true.1 this
    exact ⟨x, hx, by simpa using hxi⟩) hpw hsome (fun pre y post he d hd => by
      rcases htop pre y post he d hd with ⟨x, hx, _⟩ | hx
      · cases hx
      · exact hx) hfo (fun y hy => by have := List.all_eq_true.1 hA y hy; simp only [Bool.and_eq_true] at this; exact this.2) (fun y hy => by have := List.all_eq_true.1 hA y hy; simp only [Bool.and_eq_true, bne_iff_ne] at this; exact this.1) hanc hrun
    (A.length + 1) (Array.replicate l.toArray.size false) none a w.drew (by rw [hremA, hf0]; simp) (fun y hy => hun y (by simp [hy]))
      ⟨by simp, fun y hy => by
        rcases Nat.lt_or_ge y l.toArray.size with h | h
        · simp at h; simp [h] at hy
        · simp at h; simp [h] at hy⟩ (by rw [hf0]; rfl) (by rw [hremA]; exact h)
  have hn : B.length + (A.length + 1) = l.toArray.size := by
    rw [← hlen]; simp; omega
  rw [hn] at hs
  exact hs
end
end Go.Proofs.YtmhgjgclclnmaaaGreat
/- The rule for regions that draw their order, when one laying of a block may come up at any time among calls that turn one block p. -/


namespace Go.Proofs.YtmhgjgclclnmaaaGreat
open Go.RowKit
/-- all blocks but p are as they were -/
structure Kq (p : Nat) (w w' : World) : Prop where
  os : w'.os = w.os
  tape : w'.tape = w.tape
  output : w'.output = w.output
  size : w.heap.size ≤ w'.heap.size
  keep : ∀ i, i ≠ p → i < w.heap.size → w'.heap[i]? = w.heap[i]?
theorem Kq.refl (p : Nat) (w : World) : Kq p w w := ⟨rfl, rfl, rfl, Nat.le_refl _, fun _ _ _ => rfl⟩
theorem Kq.trans {p : Nat} {a b c : World} (h : Kq p a b) (k : Kq p b c) : Kq p a c := ⟨k.os.trans h.os, k.tape.trans h.tape, k.output.trans h.output, Nat.le_trans h.size k.size, fun i h1 h2 => (k.keep i h1 (Nat.lt_of_lt_of_le h2 h.size)).trans (h.keep i h1 h2)⟩
theorem Kq.al {p : Nat} {w w' : World} (h : Kq p w w') (o : Obj) : Kq p w (w'.alloc o) := ⟨h.os, h.tape, h.output, Nat.le_trans h.size (by simp), fun i h1 h2 => (Below.heap_alloc _ _ _ (Nat.lt_of_lt_of_le h2 h.size)).trans (h.keep i h1 h2)⟩
theorem Kq.of_kp {p : Nat} {w w' : World} (h : Kp p w w') : Kq p w w' := ⟨h.below.os, h.below.tape, h.below.output, h.below.size, h.keep⟩
theorem Kq.of_below {p : Nat} {w w' : World} (h : Below w.heap.size w w') : Kq p w w' := ⟨h.os, h.tape, h.output, h.size, fun i _ h2 => h.block i h2⟩
theorem Kq.kp {p : Nat} {w w' : World} (h : Kq p w w') (hp : p ≤ w.heap.size) : Kp p w w' := ⟨⟨h.os, h.tape, h.output, h.size, fun k hk => h.keep k (by omega) (by omega)⟩, h.keep⟩
theorem Mv.kq {z : Obj} {p : Nat} {st st' : Option Nat} {w W : World} (h : Mv z st w st' W) : Kq p w W := Kq.of_below h.below
theorem FlAt.kq {z : Obj} {lo p : Nat} {st : Option Nat} {w W : World} (h : FlAt z lo st w) (hp : p < lo) (hb : Kq p w W) : FlAt z lo st W :=
  ⟨Nat.le_trans h.1 hb.size, fun b e => ⟨(h.2 b e).1, (hb.keep b (by have := (h.2 b e).1; omega) ((Array.getElem?_eq_some_iff.1 (h.2 b e).2).1)).trans (h.2 b e).2⟩⟩
structure KqBy (p : Nat) (w : World) where
  world : World
  h : Kq p w world
instance (p : Nat) (w : World) : Inhabited (KqBy p w) := ⟨⟨w, Kq.refl _ _⟩⟩
theorem KqBy.cell {p : Nat} {W : World} (q : KqBy p W) (b o : Nat) (h1 : b ≠ p) (h : b < W.heap.size) : q.world.cell? ⟨b, o, none⟩ = W.cell? ⟨b, o, none⟩ := World.cell?_of_block (a := ⟨b, o, none⟩) (q.h.keep b h1 h)
theorem KqBy.cell_drew {p : Nat} {W : World} (q : KqBy p W.drew) (b o : Nat) (h1 : b ≠ p) (h : b < W.heap.size) : q.world.cell? ⟨b, o, none⟩ = W.cell? ⟨b, o, none⟩ := World.cell?_of_block (a := ⟨b, o, none⟩) (q.h.keep b h1 h)
section
variable {P : Program} {ops : Array Oper} {p : Nat}
def wpM (P : Program) (ops : Array Oper) (p : Nat) (z : Obj) (F : Nat → Act → World → Prop) : List (Oper × Tag) → Option Nat → Act → World → Prop
  | [], st, a, w => ∀ b W, Mv z st w (some b) W → F b a W
  | (o, .q) :: rest, st, a, w =>
    if Region.wanted o (yielded ops a.tmps) then ∃ v, (∀ q : KqBy p w, stillUpon q.world v ((execOp a.eval o).run P q.world)) ∧ wpM P ops p z F rest st (a.put o.dst v) w
    else wpM P ops p z F rest st (a.put o.dst undef) w
  | (o, .p) :: rest, st, a, w =>
    if Region.wanted o (yielded ops a.tmps) then ∃ v, (∀ W : World, stillUpon W v ((execOp a.eval o).run P W)) ∧ wpM P ops p z F rest st (a.put o.dst v) w
    else wpM P ops p z F rest st (a.put o.dst undef) w
  | (o, .g) :: rest, st, a, w =>
    if Region.wanted o (yielded ops a.tmps) then ∀ st' W, Mv z st w st' W → givesUpon P (fun v w' => Kq p W w' ∧ wpM P ops p z F rest st' (a.put o.dst v) w') ((execOp a.eval o).run P W)
    else wpM P ops p z F rest st (a.put o.dst undef) w
  | (_, .b) :: _, _, _, _ => False
variable {z : Obj} {F : Nat → Act → World → Prop}
theorem wpM_q {o : Oper} {rest : List (Oper × Tag)} {st : Option Nat} {a : Act} {w : World}
    (h : ∀ K : Act → Prop, (∀ a, wpM P ops p z F rest st a w → K a) → if Region.wanted o (yielded ops a.tmps) then ∃ v, (∀ q : KqBy p w, stillUpon q.world v ((execOp a.eval o).run P q.world)) ∧ K (a.put o.dst v) else K (a.put o.dst undef)) :
    wpM P ops p z F ((o, .q) :: rest) st a w := h _ fun _ h => h
theorem wpM_p {o : Oper} {rest : List (Oper × Tag)} {st : Option Nat} {a : Act} {w : World}
    (h : ∀ K : Act → Prop, (∀ a, wpM P ops p z F rest st a w → K a) → if Region.wanted o (yielded ops a.tmps) then ∃ v, (∀ W : World, stillUpon W v ((execOp a.eval o).run P W)) ∧ K (a.put o.dst v) else K (a.put o.dst undef)) :
    wpM P ops p z F ((o, .p) :: rest) st a w := h _ fun _ h => h
theorem wpM_g {o : Oper} {rest : List (Oper × Tag)} {st : Option Nat} {a : Act} {w : World} (hgd : o.guard = none)
    (h : ∀ K : Option Nat → Act → World → Prop, (∀ st' a w', wpM P ops p z F rest st' a w' → K st' a w') → ∀ st' W, Mv z st w st' W → givesUpon P (fun v w' => Kq p W w' ∧ K st' (a.put o.dst v) w') ((execOp a.eval o).run P W)) :
    wpM P ops p z F ((o, .g) :: rest) st a w := by
  have hw : Region.wanted o (yielded ops a.tmps) = true := by simp [Region.wanted, hgd]
  simp only [wpM, hw, if_true]
  exact h _ fun _ _ _ h => h
theorem wpM_nil {st : Option Nat} {a : Act} {w : World} (h : ∀ b W, Mv z st w (some b) W → F b a W) : wpM P ops p z F [] st a w := h

theorem wpM_alloc : ∀ (l : List (Oper × Tag)) (a : Act) (w : World), wpM P ops p z F l none a w → wpM P ops p z F l (some w.heap.size) a (w.alloc z)
  | [], a, w, h => fun b W hm => h b W (by
      rcases hm with ⟨e, rfl⟩ | ⟨e, _, _⟩
      · exact .inr ⟨rfl, e, rfl⟩
      · cases e)
  | (o, .q) :: rest, a, w, h => by
    simp only [wpM] at h ⊢
    split at h <;> rename_i hw <;> simp only [hw, if_true, if_false, Bool.false_eq_true]
    · obtain ⟨v, h1, h2⟩ := h
      exact ⟨v, fun q => h1 ⟨q.world, ((Kq.refl p _).al z).trans q.h⟩, wpM_alloc rest _ _ h2⟩
    · exact wpM_alloc rest _ _ h
  | (o, .p) :: rest, a, w, h => by
    simp only [wpM] at h ⊢
    split at h <;> rename_i hw <;> simp only [hw, if_true, if_false, Bool.false_eq_true]
    · obtain ⟨v, h1, h2⟩ := h
      exact ⟨v, h1, wpM_alloc rest _ _ h2⟩
    · exact wpM_alloc rest _ _ h
  | (o, .g) :: rest, a, w, h => by
    simp only [wpM] at h ⊢
    split at h <;> rename_i hw <;> simp only [hw, if_true, if_false, Bool.false_eq_true]
    · intro st' W hm
      refine h st' W ?_
      rcases hm with ⟨e, rfl⟩ | ⟨e, _, _⟩
      · exact .inr ⟨rfl, e, rfl⟩
      · cases e
    · exact wpM_alloc rest _ _ h
  | (o, .b) :: rest, a, w, h => h

theorem exchM {oj : Oper} {tj : Tag} {post : List (Oper × Tag)} (hsj : ∀ cs b, oj.op ≠ .select cs b) (st : Option Nat) : ∀ (pre : List (Oper × Tag)) (a : Act) (w : World),
    (∀ x ∈ pre, (x.2 = .q ∨ x.2 = .p) ∧ x.1.apart ops oj = true ∧ ∀ cs b, x.1.op ≠ .select cs b) → wpM P ops p z F (pre ++ (oj, tj) :: post) st a w →
    opStep P ops oj (fun v w' => Kq p w w' ∧ wpM P ops p z F (pre ++ post) st (a.put oj.dst v) w') a w
  | [], a, w, _, h => by
    unfold opStep
    simp only [List.nil_append] at h ⊢
    cases tj <;> simp only [wpM] at h
    · split at h <;> rename_i hw <;> simp only [hw, if_true, if_false, Bool.false_eq_true]
      · obtain ⟨v, h1, h2⟩ := h
        exact givesUpon_of_still (h1 ⟨w, Kq.refl _ _⟩) ⟨Kq.refl _ _, h2⟩
      · exact ⟨Kq.refl _ _, h⟩
    · split at h <;> rename_i hw <;> simp only [hw, if_true, if_false, Bool.false_eq_true]
      · exact h st w (.inl ⟨rfl, rfl⟩)
      · exact ⟨Kq.refl _ _, h⟩
    · split at h <;> rename_i hw <;> simp only [hw, if_true, if_false, Bool.false_eq_true]
      · obtain ⟨v, h1, h2⟩ := h
        exact givesUpon_of_still (h1 w) ⟨Kq.refl _ _, h2⟩
      · exact ⟨Kq.refl _ _, h⟩
  | (op, t) :: pre, a, w, hp, h => by
    obtain ⟨ht, hap, hsp⟩ := hp (op, t) (by simp)
    simp only at ht hap hsp
    obtain ⟨h1, h2, h3⟩ := Oper.apart_spec hap
    have hp' : ∀ x ∈ pre, (x.2 = .q ∨ x.2 = .p) ∧ x.1.apart ops oj = true ∧ ∀ cs b, x.1.op ≠ .select cs b := fun x hx => hp x (by simp [hx])
    have key : ∀ v, (∀ w', Kq p w w' → ∀ u, wpM P ops p z F (pre ++ post) st ((a.put oj.dst u).put op.dst v) w' → wpM P ops p z F ((op, t) :: (pre ++ post)) st (a.put oj.dst u) w') →
        wpM P ops p z F (pre ++ (oj, tj) :: post) st (a.put op.dst v) w → opStep P ops oj (fun v w' => Kq p w w' ∧ wpM P ops p z F ((op, t) :: pre ++ post) st (a.put oj.dst v) w') a w := by
      intro v hk hh
      have ih := exchM hsj st pre (a.put op.dst v) w hp' hh
      unfold opStep at ih ⊢
      rw [wanted_put oj a op.dst v h1, execOp_put oj hsj a op.dst v h1] at ih
      split at ih <;> rename_i hw <;> simp only [hw, if_true, if_false, Bool.false_eq_true]
      · refine givesUpon_mono ih fun u w' hh' => ⟨hh'.1, hk w' hh'.1 u ?_⟩
        rw [← Act.put_comm a v u h2]; exact hh'.2
      · refine ⟨ih.1, hk w (Kq.refl _ _) undef ?_⟩
        rw [← Act.put_comm a v undef h2]; exact ih.2
    rcases ht with rfl | rfl
    · simp only [List.cons_append, wpM] at h
      split at h
      · rename_i hw
        obtain ⟨v, hv, hrest⟩ := h
        refine key v (fun w' hbw u hr => ?_) hrest
        simp only [wpM]
        rw [wanted_put op a oj.dst u h3, if_pos hw, execOp_put op hsp a oj.dst u h3]
        exact ⟨v, fun q => hv ⟨q.world, hbw.trans q.h⟩, hr⟩
      · rename_i hw
        refine key undef (fun w' hbw u hr => ?_) h
        simp only [wpM]
        rw [wanted_put op a oj.dst u h3, if_neg hw]
        exact hr
    · simp only [List.cons_append, wpM] at h
      split at h
      · rename_i hw
        obtain ⟨v, hv, hrest⟩ := h
        refine key v (fun w' hbw u hr => ?_) hrest
        simp only [wpM]
        rw [wanted_put op a oj.dst u h3, if_pos hw, execOp_put op hsp a oj.dst u h3]
        exact ⟨v, hv, hr⟩
      · rename_i hw
        refine key undef (fun w' hbw u hr => ?_) h
        simp only [wpM]
        rw [wanted_put op a oj.dst u h3, if_neg hw]
        exact hr

theorem wpM_toD {Q : Act → World → Prop} {fo : Oper} {pb : List (Oper × Tag)} {b : Nat} : ∀ (l : List (Oper × Tag)) (a : Act) (w : World), (∀ x ∈ l, x.2 = .p ∧ fo.apart ops x.1 = true ∧ ∀ cs b, x.1.op ≠ .select cs b) →
    wpM P ops p z (fun b a w => wpD P ops Q pb (a.put fo.dst (flPtr b)) w) l (some b) a w → wpD P ops Q (l ++ pb) (a.put fo.dst (flPtr b)) w
  | [], a, w, _, h => h b w (.inl ⟨rfl, rfl⟩)
  | (o, t) :: rest, a, w, hp, h => by
    obtain ⟨ht, hap, hsp⟩ := hp (o, t) (by simp)
    simp only at ht hap hsp
    subst ht
    obtain ⟨p1, p2, p3⟩ := Oper.apart_spec hap
    have hp' : ∀ x ∈ rest, x.2 = .p ∧ fo.apart ops x.1 = true ∧ ∀ cs b, x.1.op ≠ .select cs b := fun x hx => hp x (by simp [hx])
    simp only [List.cons_append, wpD]
    simp only [wpM] at h
    rw [wanted_put o a fo.dst (flPtr b) p1, execOp_put o hsp a fo.dst (flPtr b) p1]
    split at h <;> rename_i hw <;> simp only [hw, if_true, if_false, Bool.false_eq_true]
    · obtain ⟨v, h1, h2⟩ := h
      refine ⟨v, h1, ?_⟩
      rw [Act.put_comm a (flPtr b) v p2]
      exact wpM_toD rest _ _ hp' h2
    · rw [Act.put_comm a (flPtr b) undef p2]
      exact wpM_toD rest _ _ hp' h

theorem flK_sound {Q : Exit → Act → World → Prop} (fi : Nat) (fo : Oper) (A B : List (Nat × Tag)) (hsel : Region.noSelect ops = true) (hcov : ∀ i, i < ops.size → ∃ x ∈ (fi, Tag.p) :: (A ++ B), x.1 = i)
    (hpw : ((fi, Tag.p) :: (A ++ B)).Pairwise (Rel2 ops)) (hsome : ∀ y ∈ (fi, Tag.p) :: (A ++ B), (ops[y.1]?).isSome = true) (htop : ∀ pre y post, (fi, Tag.p) :: (A ++ B) = pre ++ y :: post → ∀ d ∈ depsOf ops y.1, ∃ x ∈ pre, x.1 = d)
    (hfo : ops[fi]? = some fo) (hap : ∀ y ∈ A, apartB ops fi y.1 = true) (hA : ∀ y ∈ A, y.2 ≠ .b) (hanc : ∀ y ∈ B, Anc ops y.1 fi ∧ ∀ x ∈ A, x.2 ≠ .p → Anc ops y.1 x.1)
    (hrun : ∀ (a : Act) (w : World), Region.wanted fo (yielded ops a.tmps) = true ∧ (execOp a.eval fo).run P w = .ok (.value (flPtr w.heap.size)) (w.alloc z)) :
    ∀ (m : Nat) (listed : Array Bool) (st : Option Nat) (a : Act) (w : World), (rem A listed).length + (if listed.getD fi true then 0 else 1) = m → (∀ y ∈ B, listed.getD y.1 true = false) → Ideal ops listed → st.isSome = listed.getD fi true →
      wpM P ops p z (fun b a w => wpD P ops (Q .normal) (pick ops B) (a.put fo.dst (flPtr b)) w) (pick ops (rem A listed)) st a w → wpAny P .any ops Q (B.length + m) listed (realAct fo st a) w := by
  have hlt : ∀ y ∈ (fi, Tag.p) :: (A ++ B), y.1 < ops.size := fun y hy => by
    have := hsome y hy
    rw [Option.isSome_iff_exists] at this
    obtain ⟨o, ho⟩ := this
    exact (Array.getElem?_eq_some_iff.1 ho).1
  obtain ⟨hpf, hpAB⟩ := List.pairwise_cons.1 hpw
  obtain ⟨hpA, hpB, hpX⟩ := List.pairwise_append.1 hpAB
  intro m
  have hdone : ∀ (m : Nat) (listed : Array Bool) (st : Option Nat) (a : Act) (w : World), (rem A listed).length + (if listed.getD fi true then 0 else 1) = m → (∀ y ∈ B, listed.getD y.1 true = false) → Ideal ops listed → st.isSome = listed.getD fi true →
      wpM P ops p z (fun b a w => wpD P ops (Q .normal) (pick ops B) (a.put fo.dst (flPtr b)) w) (pick ops (rem A listed)) st a w → listed.getD fi true = true → (∀ y ∈ rem A listed, y.2 = .p) → wpAny P .any ops Q (B.length + m) listed (realAct fo st a) w := by
    intro m listed st a w hm hBl hid hst h hfl hallp
    rw [hfl] at hst hm
    obtain ⟨b, rfl⟩ := Option.isSome_iff_exists.1 hst
    have hD := wpM_toD (pick ops (rem A listed)) a w (by
      intro u hu
      obtain ⟨y, hy, hyz⟩ := List.mem_filterMap.1 hu
      have hyA := (List.mem_filter.1 hy).1
      obtain ⟨oy, hoy⟩ := Option.isSome_iff_exists.1 (hsome y (by simp [hyA]))
      rw [hoy] at hyz
      simp only [Option.map_some, Option.some.injEq] at hyz
      subst hyz
      refine ⟨hallp y hy, ?_, fun cs b => Region.noSelect_spec hsel y.1 oy cs b hoy⟩
      have := hap y hyA
      unfold apartB at this
      rw [hfo, hoy] at this
      exact this) h
    have hremB : rem ((fi, Tag.p) :: (A ++ B)) listed = rem A listed ++ B := by
      have e1 : rem ((fi, Tag.p) :: (A ++ B)) listed = rem A listed ++ rem B listed := by
        unfold rem
        rw [List.filter_cons, List.filter_append]
        simp [hfl]
      rw [e1]
      congr 1
      exact List.filter_eq_self.2 fun y hy => by rw [hBl y hy]; rfl
    exact ord_sound (P := P) (Q := Q) _ hsel hcov hpw hsome htop (B.length + m) listed _ w (by rw [hremB, List.length_append]; simp at hm; omega) hid (by
      rw [hremB]
      unfold pick at hD ⊢
      rw [List.filterMap_append]; exact hD)
  induction m with
  | zero =>
    intro listed st a w hm hBl hid hst h
    have hnil : rem A listed = [] := List.eq_nil_of_length_eq_zero (by omega)
    have hfl : listed.getD fi true = true := by
      cases hf : listed.getD fi true
      · rw [hf] at hm; simp at hm
      · rfl
    exact hdone 0 listed st a w hm hBl hid hst h hfl (fun y hy => by rw [hnil] at hy; cases hy)
  | succ m ih =>
    intro listed st a w hm hBl hid hst h
    by_cases hdn : listed.getD fi true = true ∧ ∀ y ∈ rem A listed, y.2 = .p
    · exact hdone (m + 1) listed st a w hm hBl hid hst h hdn.1 hdn.2
    refine ⟨fun h0 => ?_, fun j hj => ?_⟩
    · exfalso
      obtain ⟨y, rest, hrem⟩ : ∃ y rest, rem ((fi, Tag.p) :: (A ++ B)) listed = y :: rest := by
        cases hr : rem ((fi, Tag.p) :: (A ++ B)) listed with
        | nil =>
          exfalso
          have e : ∀ y ∈ (fi, Tag.p) :: (A ++ B), listed.getD y.1 true = true := fun y hy => by
            cases hv : listed.getD y.1 true
            · have : y ∈ rem ((fi, Tag.p) :: (A ++ B)) listed := List.mem_filter.2 ⟨hy, by rw [hv]; rfl⟩
              rw [hr] at this; cases this
            · rfl
          have e1 := e (fi, .p) (by simp)
          have e2 : rem A listed = [] := List.filter_eq_nil_iff.2 fun y hy => by rw [e y (by simp [hy])]; simp
          simp only at e1
          rw [e1, e2] at hm
          simp at hm
        | cons y rest => exact ⟨y, rest, rfl⟩
      obtain ⟨pre, post, hord, hpre⟩ := List.filter_eq_cons_iff.1 hrem
      have hy : y ∈ (fi, Tag.p) :: (A ++ B) := by rw [hord]; simp
      obtain ⟨o, ho⟩ := Option.isSome_iff_exists.1 (hsome y hy)
      have hun : listed.getD y.1 true = false := by
        have : y ∈ rem ((fi, Tag.p) :: (A ++ B)) listed := by rw [hrem]; simp
        simpa using (List.mem_filter.1 this).2
      have : y.1 ∈ Region.ready .any ops listed := ready_of ho hun fun d hd => by
        obtain ⟨x, hx, rfl⟩ := htop pre y post hord d hd
        have h1 := hpre.1 x hx
        have hxl : x.1 < listed.size := by rw [hid.size]; exact hlt x (by rw [hord]; simp [hx])
        rw [← getD_tf hxl]
        simpa using h1
      rw [h0] at this
      cases this
    · obtain ⟨h1, h2, h3⟩ := ready_deps hj
      have hset : ∀ i, (∀ d ∈ depsOf ops i, listed.getD d false = true) → Ideal ops (listed.setIfInBounds i true) := fun i h3 => by
        refine ⟨by simp [hid.size], fun y hy d hd => ?_⟩
        by_cases hxy : i = y
        · subst hxy; exact getD_set_true (h3 d hd)
        · rw [getD_set_ne false hxy] at hy
          exact getD_set_true (hid.closed y hy d hd)
      obtain ⟨x, hx, rfl⟩ := hcov j h1
      rcases List.mem_cons.1 hx with rfl | hx'
      · -- the block is laid
        have hn : st = none := by
          simp only at h2
          rw [h2] at hst
          cases st
          · rfl
          · cases hst
        subst hn
        refine wpOp_of_step hfo ?_
        unfold opStep
        obtain ⟨hw, hr⟩ := hrun (realAct fo none a) w
        rw [if_pos hw, hr]
        have hne : ∀ y ∈ A, y.1 ≠ fi := fun y hy e => (hpf y (by simp [hy])).ne e.symm
        have hneB : ∀ y ∈ B, fi ≠ y.1 := fun y hy e => (hpf y (by simp [hy])).ne e
        have hl : fi < listed.size := by rw [hid.size]; exact h1
        have := ih (listed.setIfInBounds fi true) (some w.heap.size) a (w.alloc z) (by
            rw [rem_set hne]
            simp only at h2
            rw [h2] at hm
            simp [hl]
            simpa using hm) (fun y hy => by rw [getD_set_ne true (hneB y hy)]; exact hBl y hy) (hset fi h3) (by simp [hl]) (by rw [rem_set hne]; exact wpM_alloc _ _ _ h)
        exact this
      · rcases List.mem_append.1 hx' with hxA | hxB
        · have hxr : x ∈ rem A listed := List.mem_filter.2 ⟨hxA, by simpa using h2⟩
          obtain ⟨pre, post, hsplit⟩ := List.append_of_mem hxr
          have hpwr : (rem A listed).Pairwise (Rel2 ops) := hpA.filter _
          rw [hsplit, List.pairwise_append] at hpwr
          obtain ⟨_, hpc, hcross⟩ := hpwr
          obtain ⟨oj, hoj⟩ := Option.isSome_iff_exists.1 (hsome x hx)
          have hpre : ∀ y ∈ pre, Rel2 ops y x ∧ listed.getD y.1 false = false ∧ y ∈ A := fun y hy => by
            have hyr : y ∈ rem A listed := by rw [hsplit]; simp [hy]
            obtain ⟨hyo, hyu⟩ := List.mem_filter.1 hyr
            have hyl : y.1 < listed.size := by rw [hid.size]; exact hlt y (by simp [hyo])
            exact ⟨hcross y hy x (by simp), by rw [← getD_tf hyl]; simpa using hyu, hyo⟩
          have hno : ∀ y ∈ pre, ¬ Anc ops x.1 y.1 := fun y hy ha => by
            have := hid.anc ha h3
            rw [(hpre y hy).2.1] at this
            cases this
          have hsj : ∀ cs b, oj.op ≠ .select cs b := fun cs b => Region.noSelect_spec hsel x.1 oj cs b hoj
          have hstep := exchM (P := P) (ops := ops) (p := p) (z := z) (F := fun b a w => wpD P ops (Q .normal) (pick ops B) (a.put fo.dst (flPtr b)) w) (oj := oj) (tj := x.2) (post := pick ops post) hsj st (pick ops pre) a w
            (by
              intro u hu
              obtain ⟨y, hy, hyz⟩ := List.mem_filterMap.1 hu
              obtain ⟨oy, hoy⟩ := Option.isSome_iff_exists.1 (hsome y (by simp [(hpre y hy).2.2]))
              rw [hoy] at hyz
              simp only [Option.map_some, Option.some.injEq] at hyz
              subst hyz
              refine ⟨?_, ?_, fun cs b => Region.noSelect_spec hsel y.1 oy cs b hoy⟩
              · cases hq : y.2 with
                | q => exact Or.inl rfl
                | p => exact Or.inr rfl
                | g => exact absurd ((hpre y hy).1.anc (by rw [hq]; rfl)) (hno y hy)
                | b => exact absurd ((hpre y hy).1.anc (by rw [hq]; rfl)) (hno y hy)
              · rcases (hpre y hy).1.apart with hd | hd
                · exact absurd (.one hd) (hno y hy)
                · unfold apartB at hd
                  rw [hoy, hoj] at hd
                  exact hd)
            (by
              have e : pick ops (rem A listed) = pick ops pre ++ (oj, x.2) :: pick ops post := by
                rw [hsplit]; unfold pick; simp [List.filterMap_append, hoj]
              rw [← e]; exact h)
          have hfx : fi ≠ x.1 := fun e => (hpf x hx').ne e
          have hrem' : rem A (listed.setIfInBounds x.1 true) = pre ++ post := by
            have hx1 : x.1 < listed.size := by rw [hid.size]; exact h1
            have e1 : rem A (listed.setIfInBounds x.1 true) = (rem A listed).filter fun y => y.1 != x.1 := by
              unfold rem
              rw [List.filter_filter]
              apply List.filter_congr
              intro y hy
              by_cases hyx : x.1 = y.1
              · rw [← hyx]; simp [hx1]
              · have hne : (y.1 != x.1) = true := by simpa using fun h => hyx h.symm
                rw [getD_set_ne true hyx, hne]; simp
            rw [e1, hsplit, List.filter_append, List.filter_cons]
            have hp : pre.filter (fun y => y.1 != x.1) = pre := List.filter_eq_self.2 fun y hy => by simpa using (hpre y hy).1.ne
            have hq : post.filter (fun y => y.1 != x.1) = post := List.filter_eq_self.2 fun y hy => by
              have := (List.pairwise_cons.1 hpc).1 y hy
              simpa using fun e => this.ne e.symm
            rw [hp, hq]; simp
          have hlen : (pre ++ post).length + 1 = (rem A listed).length := by rw [hsplit]; simp; omega
          have e2 : ∀ v w', wpM P ops p z (fun b a w => wpD P ops (Q .normal) (pick ops B) (a.put fo.dst (flPtr b)) w) (pick ops pre ++ pick ops post) st (a.put oj.dst v) w' →
              wpAny P .any ops Q (B.length + m) (listed.setIfInBounds x.1 true) (realAct fo st (a.put oj.dst v)) w' := fun v w' hh =>
            ih _ st _ _ (by rw [hrem', getD_set_ne true (fun e => hfx e.symm)]; omega) (fun y hy => by rw [getD_set_ne true (hpX x hxA y hy).ne]; exact hBl y hy) (hset x.1 h3) (by rw [getD_set_ne true (fun e => hfx e.symm)]; exact hst)
              (by rw [hrem']; unfold pick at hh ⊢; rw [List.filterMap_append]; exact hh)
          have hapx := hap x hxA
          unfold apartB at hapx
          rw [hfo, hoj] at hapx
          obtain ⟨p1, p2, p3⟩ := Oper.apart_spec hapx
          refine wpOp_of_step hoj ?_
          cases st with
          | none =>
            show opStep P ops oj (fun v w' => wpAny P .any ops Q (B.length + m) (listed.setIfInBounds x.1 true) (a.put oj.dst v) w') a w
            unfold opStep at hstep ⊢
            split at hstep <;> rename_i hw <;> simp only [hw, if_true, if_false, Bool.false_eq_true]
            · exact givesUpon_mono hstep fun v w' hh => e2 v w' hh.2
            · exact e2 _ _ hstep.2
          | some b =>
            show opStep P ops oj (fun v w' => wpAny P .any ops Q (B.length + m) (listed.setIfInBounds x.1 true) ((a.put fo.dst (flPtr b)).put oj.dst v) w') (a.put fo.dst (flPtr b)) w
            unfold opStep at hstep ⊢
            rw [wanted_put oj a fo.dst (flPtr b) p1, execOp_put oj hsj a fo.dst (flPtr b) p1]
            split at hstep <;> rename_i hw <;> simp only [hw, if_true, if_false, Bool.false_eq_true]
            · exact givesUpon_mono hstep fun v w' hh => by rw [Act.put_comm a (flPtr b) v p2]; exact e2 v w' hh.2
            · rw [Act.put_comm a (flPtr b) undef p2]; exact e2 _ _ hstep.2
        · exfalso
          obtain ⟨ha1, ha2⟩ := hanc x hxB
          have hfl := hid.anc ha1 h3
          have hf1 : listed.getD fi true = true := by
            rw [getD_tf (by rw [hid.size]; exact hlt (fi, .p) (by simp))]; exact hfl
          refine hdn ⟨hf1, fun y hy => ?_⟩
          obtain ⟨hyA, hyl⟩ := List.mem_filter.1 hy
          cases hq : y.2 with
          | p => rfl
          | _ =>
            have := hid.anc (ha2 y hyA (by rw [hq]; decide)) h3
            rw [getD_tf (by rw [hid.size]; exact hlt y (by simp [hyA])), this] at hyl
            cases hyl

/-- **The rule.** -/
theorem wp_region_flK {id : Nat} {Q : Exit → Act → World → Prop} {a : Act} {w : World} {l : List Oper} (fi : Nat) (A B : List (Nat × Tag)) (fo : Oper) (z : Obj) (hm : P.follows .mixedOrders = true)
    (hB : ordB l.toArray ((fi, .p) :: (A ++ B)) = true) (hB2 : ordB l.toArray ((fi, .q) :: (toQ A .q ++ toB B)) = true) (hA : (A.all fun x => x.2 != .b && apartB l.toArray fi x.1) = true) (hfo : l.toArray[fi]? = some fo)
    (hrun : ∀ (a : Act) (w : World), Region.wanted fo (yielded l.toArray a.tmps) = true ∧ (execOp a.eval fo).run P w = .ok (.value (flPtr w.heap.size)) (w.alloc z))
    (h : wpM P l.toArray p z (fun b a w => wpD P l.toArray (Q .normal) (pick l.toArray B) (a.put fo.dst (flPtr b)) w) (pick l.toArray A) none a w.drew) : (Code.region id l.toArray true).wp P Q a w := by
  have hanc : ∀ y ∈ B, Anc l.toArray y.1 fi ∧ ∀ x ∈ A, x.2 ≠ .p → Anc l.toArray y.1 x.1 := by
    simp only [ordB, Bool.and_eq_true, beq_iff_eq] at hB2
    obtain ⟨hpw, _, _, _⟩ := ordFrom_spec _ [] hB2.2 (fun _ h => by cases h)
    obtain ⟨hpf, hpAB⟩ := List.pairwise_cons.1 hpw
    obtain ⟨_, _, hpX⟩ := List.pairwise_append.1 hpAB
    intro y hy
    have hyB : (y.1, Tag.b) ∈ toB B := List.mem_map.2 ⟨y, hy, rfl⟩
    exact ⟨(hpf (y.1, .b) (by simp [hyB])).anc rfl, fun x hx hxp => (hpX (x.1, .q) (List.mem_map.2 ⟨x, hx, by rw [if_neg hxp]⟩) (y.1, .b) hyB).anc rfl⟩
  simp only [ordB, Bool.and_eq_true, beq_iff_eq] at hB
  obtain ⟨⟨⟨hsel, hlen⟩, hcov⟩, hfrom⟩ := hB
  obtain ⟨hpw, _, hsome, htop⟩ := ordFrom_spec _ [] hfrom (fun _ h => by cases h)
  refine wp_region_any hm ?_
  have hun : ∀ y ∈ (fi, Tag.p) :: (A ++ B), (Array.replicate l.toArray.size false).getD y.1 true = false := fun y hy => by
    obtain ⟨o, ho⟩ := Option.isSome_iff_exists.1 (hsome y hy)
    have := (Array.getElem?_eq_some_iff.1 ho).1
    simp at this
    simp [this]
  have hremA : rem A (Array.replicate l.toArray.size false) = A := List.filter_eq_self.2 fun y hy => by rw [hun y (by simp [hy])]; rfl
  have hf0 := hun (fi, .p) (by simp)
  simp only at hf0
  have hs := flK_sound (P := P) (Q := Q) (z := z) fi fo A B hsel (fun i hi => by
    have := List.all_eq_true.1 hcov i (List.mem_range.2 hi)
    obtain ⟨x, hx, hxi⟩ := List.any_eq_true.1 this
    exact ⟨x, hx, by simpa using hxi⟩) hpw hsome (fun pre y post he d hd => by
      rcases htop pre y post he d hd with ⟨x, hx, _⟩ | hx
      · cases hx
      · exact hx) hfo (fun y hy => by have := List.all_eq_true.1 hA y hy; simp only [Bool.and_eq_true] at this; exact this.2) (fun y hy => by have := List.all_eq_true.1 hA y hy; simp only [Bool.and_eq_true, bne_iff_ne] at this; exact this.1) hanc hrun
    (A.length + 1) (Array.replicate l.toArray.size false) none a w.drew (by rw [hremA, hf0]; simp) (fun y hy => hun y (by simp [hy]))
      ⟨by simp, fun y hy => by
        rcases Nat.lt_or_ge y l.toArray.size with h | h
        · simp at h; simp [h] at hy
        · simp at h; simp [h] at hy⟩ (by rw [hf0]; rfl) (by rw [hremA]; exact h)
  have hn : B.length + (A.length + 1) = l.toArray.size := by
    rw [← hlen]; simp; omega
  rw [hn] at hs
  exact hs
end
end Go.Proofs.YtmhgjgclclnmaaaGreat
/- Words for the reference's drawn pieces: a set of a call's own within bounds. -/



namespace Go.Proofs.YtmhgjgclclnmaaaGreat
open Go.RowKit
/-- a tile set of a call's own, all of it between lo and hi -/
structure SetIn (w : World) (lo hi : Nat) (vg vt : Value) (gs : List Gl) (ts : List Ti) : Prop where
  gl : w.ownsRow lo 143 2 vg gs.length (flatC encGl gs)
  ti : ∃ us, OwnT w lo 145 2 vt us ts ∧ ∀ (k : Nat) (u : Value) (g : Nat), us[k]? = some u → u.ownBlock = some g → g < hi
  glt : ∀ g, vg.ownBlock = some g → g < hi
  tlt : ∀ g, vt.ownBlock = some g → g < hi
theorem SetIn.of {w : World} {lo : Nat} {vg vt : Value} {us : List Value} {gs : List Gl} {ts : List Ti} (h1 : w.ownsRow lo 143 2 vg gs.length (flatC encGl gs)) (h2 : OwnT w lo 145 2 vt us ts) : SetIn w lo w.heap.size vg vt gs ts :=
  ⟨h1, ⟨us, h2, fun k u g hu hg => (h2.ltIn hu g hg).2⟩, fun g e => (h1.lt g e).2, fun g e => (h2.lt g e).2⟩
theorem SetIn.belowB {w w' : World} {lo hi : Nat} {vg vt : Value} {gs : List Gl} {ts : List Ti} (h : SetIn w lo hi vg vt gs ts) (hb : Below hi w w') : SetIn w' lo hi vg vt gs ts := by
  obtain ⟨us, h2, h3⟩ := h.ti
  exact ⟨ownsRow_bB h.gl h.glt hb, ⟨us, ⟨h2.len, ownsRow_bB h2.outer h.tlt hb, fun k u t hu ht => ownsRow_bB (h2.inner k u t hu ht) (h3 k u · hu) hb, h2.apart, h2.off⟩, h3⟩, h.glt, h.tlt⟩
theorem SetIn.kp {p : Nat} {w w' : World} {lo hi : Nat} {vg vt : Value} {gs : List Gl} {ts : List Ti} (h : SetIn w lo hi vg vt gs ts) (hp : p < lo) (hk : Kp p w w') : SetIn w' lo hi vg vt gs ts := by
  obtain ⟨us, h2, h3⟩ := h.ti
  exact ⟨Own_kp h.gl hp hk, ⟨us, h2.kp hp hk, h3⟩, h.glt, h.tlt⟩
theorem SetIn.below {w w' : World} {lo hi : Nat} {vg vt : Value} {gs : List Gl} {ts : List Ti} (h : SetIn w lo hi vg vt gs ts) (hb : Below w.heap.size w w') : SetIn w' lo hi vg vt gs ts := by
  obtain ⟨us, h2, h3⟩ := h.ti
  exact ⟨ownsRow_below h.gl hb, ⟨us, h2.below hb, h3⟩, h.glt, h.tlt⟩
theorem SetIn.setLow {w : World} {lo hi : Nat} {vg vt : Value} {gs : List Gl} {ts : List Ti} (h : SetIn w lo hi vg vt gs ts) {a : Addr} (ha : a.block < lo) (x : Value) : SetIn (w.setCell a x) lo hi vg vt gs ts := by
  obtain ⟨us, h2, h3⟩ := h.ti
  exact ⟨ownsRow_setB h.gl ha x, ⟨us, h2.setBelow ha x, h3⟩, h.glt, h.tlt⟩
theorem SetIn.at_ {w : World} {b lo hi : Nat} {vg vt : Value} {gs : List Gl} {ts : List Ti} (h : SetIn w lo hi vg vt gs ts) (hb : Bx w b [vg, vt]) : SetAt w b 0 gs ts := by
  obtain ⟨us, h2, _⟩ := h.ti
  obtain ⟨A, c, e1, hA⟩ := rdGl_of_flat h.gl
  obtain ⟨B, d, e2, hB⟩ := h2.rd
  exact ⟨hb.lt, ⟨A, _, c, by rw [← e1]; exact hb.cell 0 _ rfl, hA⟩, ⟨B, _, d, by rw [← e2]; exact hb.cell 1 _ rfl, hB⟩⟩
theorem SetIn.own {w : World} {lo hi lo' : Nat} {vg vt : Value} {gs : List Gl} {ts : List Ti} (h : SetIn w lo hi vg vt gs ts) (hl : lo' ≤ lo) : SetOwn w lo' (.agg #[vg, vt]) gs ts := by
  obtain ⟨us, h2, _⟩ := h.ti
  exact ⟨vg, vt, us, rfl, ownsRow_lo h.gl hl, h2.rebase hl⟩
theorem Bx.of_heap {W : World} {b : Nat} {l : List Value} {t : TypeId} (h : W.heap[b]? = some (.cells l.toArray t)) : Bx W b l :=
  ⟨(Array.getElem?_eq_some_iff.1 h).1, fun j u hu => by simp only [World.cell?, h]; simpa using hu, fun j => by simp [World.frozen?, h]⟩
theorem ownsRow_setO {w : World} {base : Nat} {e : TypeId} {size : Nat} {v : Value} {n : Nat} {xs : List Value} (h : w.ownsRow base e size v n xs) {a : Addr} (hne : ∀ g, v.ownBlock = some g → g ≠ a.block) (x : Value) : (w.setCell a x).ownsRow base e size v n xs := by
  refine h.kept (row := some a.block) ⟨rfl, rfl, rfl, by simp, fun k hk hne => Below.heap_setCell _ _ _ _ (fun e => hne (by rw [e]))⟩ ?_
  cases hb : v.ownBlock with
  | none => exact .inl rfl
  | some g => exact .inr fun e' => by injection e' with e'; exact hne g hb e'
/-- a drawn piece: a valid set and a valid assembly of at most 30 tiles -/
def DrawPiece (p : Nat) (w : World) (e : Ending) (w' : World) : Prop := ∃ vs va gs ts xs, e = .returned (.tuple #[vs, .agg #[va]]) ∧ SetOwn w' w.heap.size vs gs ts ∧ w'.ownsRow w.heap.size 149 3 va xs.length (plCells xs) ∧ validAsmB gs ts xs = true ∧ xs.length ≤ 30 ∧ Kp p w w'
end Go.Proofs.YtmhgjgclclnmaaaGreat
/- Walks: the strength of all bonds, both sides; a part of an assembly. Printed by gen_dr8.py. -/




namespace Go.Proofs.YtmhgjgclclnmaaaGreat
open Go.RowKit
attribute [local go_sem] BelowBy.cell BelowBy.cell_drew stillUpon givesUpon BelowBy.cell_drew2 BelowBy.cell_drew3

/-- the tile at an index -/
def plK (ys : List Pl) (i : Int) : Pl := match ys[i.toNat]? with
  | some e => e
  | none => ⟨0, 0, 0⟩
theorem plK_at {ys : List Pl} {k : Nat} {e : Pl} (he : ys[k]? = some e) : plK ys (k : Int) = e := by
  unfold plK
  rw [show ((k : Nat) : Int).toNat = k by omega, he]
/-- an assembly that is a part of another -/
def PlsRes (w : World) (l : List Pl) (e : Ending) (w' : World) : Prop :=
  ∃ A c, e = .returned (.agg #[.slice A l.length c]) ∧ w'.ownsRow w.heap.size 149 3 (.slice A l.length c) l.length (plCells l) ∧ Below w.heap.size w w'
set_option maxRecDepth 100000 in
set_option maxHeartbeats 4000000 in
theorem subK_any {C F : Option Addr} {k cc nf cf : Nat} {ys : List Pl} {L : List Int} {w : World} (h : RdSl 3 RPl w C k ys) (hF : RdSl 1 RInt w F nf L) (hk : k ≤ 100000) (hnf : nf ≤ 100000) (hL : ∀ v ∈ L, ∃ i : Nat, v = (i : Int) ∧ i < k) :
    Calls Tryz.prog 84 #[.agg #[.slice C k cc], .slice F nf cf] w (PlsRes w (L.map (plK ys))) := by
  obtain ⟨i0, hi, hz0, hz1, hz2⟩ := info_parts infoPl
  
  have hC := Lib.hid h
  have hFH := Lib.hid hF
  have hLH := Lib.hid hL
  have hl := hF.len
  clear h hF hL
  go_enter Tryz.func84, Tryz.ntmps84
  go_wp2
  go_loopg [10] nf (fun gk i wr => ∃ (j : Nat) (A2 : Option Addr) (c2 : Nat), j + gk = nf ∧ i = .int .i64 (j : Int) ∧ Hid (wr.ownsRow (w.heap.size + 3) 149 3 (.slice A2 j c2) j (plCells ((L.map (plK ys)).take j))) ∧ Hid (Below w.heap.size w wr) ∧ w.heap.size + 3 ≤ wr.heap.size ∧ wr.cell? ⟨w.heap.size, 0, none⟩ = some (.slice C k cc) ∧ wr.cell? ⟨w.heap.size + 1, 0, none⟩ = some (.slice none 0 0) ∧ wr.frozen? ⟨w.heap.size + 1, 0, none⟩ = false ∧ wr.cell? ⟨w.heap.size + 2, 0, none⟩ = some (.slice A2 j c2) ∧ wr.frozen? ⟨w.heap.size + 2, 0, none⟩ = false)
  case atStart => exact ⟨0, none, 0, by omega, rfl, Lib.hid (World.ownsRow_nil _ _ _ _), Lib.hid (by exact bel_), by simp, by go_simp, by go_simp, by go_simp, by go_simp, by go_simp⟩
  case round =>
    obtain ⟨j, A2, c2, hj, rfl, hrow, hbw, hsz, x0, x1, f1, x2, f2⟩ := hrel
    have e0 : w.heap.size < wr.heap.size := by omega
    have e1 : w.heap.size + 1 < wr.heap.size := by omega
    have e2 : w.heap.size + 2 < wr.heap.size := by omega
    by_cases hjn : j < nf
    · have hFw := hFH.out.below RInt.stable hbw.out
      obtain ⟨v, hv⟩ := hFw.get hjn
      obtain ⟨bf, of_, hFe, hbf, hcf⟩ := hFw.ptr (by omega)
      have d := hcf j v hv
      unfold RInt at d
      simp only [Nat.mul_one] at d
      subst hFe
      obtain ⟨i, rfl, hik⟩ := hLH.out v (List.mem_of_getElem? hv)
      have hAw := hC.out.below RPl.stable hbw.out
      obtain ⟨e, he⟩ := hAw.get hik
      obtain ⟨b, ob, hCe, hb, hc⟩ := hAw.ptr (by omega)
      obtain ⟨d0, d1, d2⟩ := hc i e he
      subst hCe
      have hjI : (j : Int) < (nf : Int) := by omega
      have hj0 : (0 : Int) ≤ (j : Int) := by omega
      have hiI : (i : Int) < (k : Int) := by omega
      have hi0 : (0 : Int) ≤ (i : Int) := by omega
      have hn := Lib.hid (show (L.map (plK ys)).take (j + 1) = (L.map (plK ys)).take j ++ [e] by rw [List.take_add_one, List.getElem?_map, hv]; simp only [Option.map_some, plK_at he]; rfl)
      clear hc he hAw hcf hv hFw
      go_wp2
      refine wp_region_ord [(0, .q), (1, .q), (2, .q), (3, .q), (4, .q), (5, .q), (6, .q), (7, .g), (8, .b), (9, .q), (10, .b)] (by kernel_rfl) (by kernel_rfl) ?_
      simp only [pick, List.filterMap_cons, List.filterMap_nil, List.getElem?_toArray, List.getElem?_cons_zero, List.getElem?_cons_succ, Option.map_some]
      repeat (first
        | ((with_reducible refine wpD_p (fun K hK => ?_)); go_simp; refine hK _ ?_; clear hK K)
        | ((with_reducible refine wpD_q (fun K hK => ?_)); go_simp; (first | refine hK _ ?_ | (go_bits; refine hK _ ?_) | (go_bits; go_simp; refine hK _ ?_)); clear hK K)
        | ((with_reducible refine wpD_g (fun K hK => ?_)); go_simp; refine hK _ _ ?_; clear hK K)
        | ((with_reducible refine wpD_g (fun K hK => ?_)); go_simp; refine ⟨Grew.of_alloc _, hK _ _ ?_⟩; clear hK K))
      have hb5 : Below wr.heap.size wr (wr.alloc (Obj.cells #[.int .i64 e.x, .int .i64 e.y, .int .i64 e.t] 149)).drew := by exact bel_
      have hb5H := Lib.hid hb5
      have hrow5 := Lib.hid (ownsRow_below hrow.out hb5)
      clear hb5
      refine wpD_append rfl _ _ 28 rfl (w.heap.size + 3) 149 i0 (.agg #[.int .i64 0, .int .i64 0, .int .i64 0]) 3 24 Tryz.underlying28 hi hz0 hz1 hz2 rfl (by decide) (.slice A2 j c2) j (plCells ((L.map (plK ys)).take j)) (by go_simp) hrow5.out ⟨wr.heap.size, 0, none⟩ 1 1 [.int .i64 e.x, .int .i64 e.y, .int .i64 e.t] (by go_simp) rfl ?hnews (fun x hx => by simp at hx; rcases hx with rfl | rfl | rfl <;> rfl) (by unfold maxLen; omega) (by omega) (by simp; omega) ?_
      case hnews =>
        have := cell_three_new wr (.int .i64 e.x) (.int .i64 e.y) (.int .i64 e.t) 149
        simpa using this
      intro v5 w5 hown hgrow
      obtain ⟨A5, c5, rfl⟩ := ownsRow_form hown
      have hownH := Lib.hid hown
      have hb6 : Below (w.heap.size + 3) wr w5 := (hb5H.out.mono (by omega)).grown hgrow (by (try simp); omega) (fun g e => (hrow5.out.lt g e).1)
      have hb6H := Lib.hid hb6
      have s6 := hb6.size
      have z0 := (hb6.cell (p := ⟨w.heap.size, 0, none⟩) (by simp)).trans x0
      have z1 := (hb6.cell (p := ⟨w.heap.size + 1, 0, none⟩) (by simp)).trans x1
      have g1 := (hb6.frozen (p := ⟨w.heap.size + 1, 0, none⟩) (by simp)).trans f1
      have z2 := (hb6.cell (p := ⟨w.heap.size + 2, 0, none⟩) (by simp)).trans x2
      have g2 := (hb6.frozen (p := ⟨w.heap.size + 2, 0, none⟩) (by simp)).trans f2
      have m2 : w.heap.size + 2 < w5.heap.size := by omega
      clear hown hgrow hb6 x0 x1 f1 x2 f2
      repeat (first | ((with_reducible refine wpD_p (fun K hK => ?_)); go_simp; refine hK _ ?_; clear hK K) | ((with_reducible refine wpD_q (fun K hK => ?_)); go_simp; (first | refine hK _ ?_ | (go_bits; refine hK _ ?_) | (go_bits; go_simp; refine hK _ ?_)); clear hK K))
      with_reducible refine wpD_b (fun K hK => ?_)
      go_simp
      refine hK _ _ ?_
      clear hK K
      with_reducible refine wpD_nil ?_
      go_wp2
      go_roundg (nf - (j + 1))
      case measure => omega
      case rel => exact ⟨j + 1, A5, c5, by omega, by go_num, Lib.hid (by rw [hn.out, plCells_snoc]; exact ownsRow_setCell_below hownH.out (Nat.lt_succ_self _) _), Lib.hid ((hbw.out.trans (hb6H.out.mono (by omega))).setCell (p := ⟨w.heap.size + 2, 0, none⟩) (by show w.heap.size ≤ w.heap.size + 2; omega) _), by (try simp); omega, by go_simp, by go_simp, by go_simp, by go_simp, by go_simp⟩
    · obtain rfl : j = nf := by omega
      have ht := Lib.hid (show (L.map (plK ys)).take j = L.map (plK ys) from List.take_of_length_le (by rw [List.length_map, hl]; exact Nat.le_refl _))
      have hln := Lib.hid (show (L.map (plK ys)).length = j by rw [List.length_map, hl])
      have hrd := Lib.hid (show (wr.setCell ⟨w.heap.size + 1, 0, none⟩ (.slice A2 j c2)).ownsRow w.heap.size 149 3 (.slice A2 j c2) j (plCells (L.map (plK ys))) by
        have := ownsRow_setCell_below hrow.out (a := ⟨w.heap.size + 1, 0, none⟩) (show w.heap.size + 1 < w.heap.size + 3 by omega) (.slice A2 j c2)
        rw [ht.out] at this
        exact ownsRow_lo this (by omega))
      go_wp2
      refine bodyPost_ret (v := .agg #[.slice A2 j c2]) (by simp only [results, Tryz.results84]; go_simp) rfl ?_
      exact ⟨A2, c2, by rw [hln.out], by rw [hln.out]; exact hrd.out, by have h9 := hbw.out; exact bel_⟩
set_option maxRecDepth 100000 in
set_option maxHeartbeats 2000000 in
theorem SubAssembly_any {C F : Option Addr} {k cc nf cf : Nat} {ys : List Pl} {L : List Int} {w : World} (h : RdSl 3 RPl w C k ys) (hF : RdSl 1 RInt w F nf L) (hk : k ≤ 100000) (hnf : nf ≤ 100000) (hL : ∀ v ∈ L, ∃ i : Nat, v = (i : Int) ∧ i < k) (hf : hasFormB ys = true) (hp : risesB 0 ((k : Int) - 1) L = true) :
    Calls Tryz.prog 38 #[.agg #[.slice C k cc], .slice F nf cf] w fun e w' => ∃ A c, e = .returned (.tuple #[.agg #[.slice A (L.map (plK ys)).length c], .int .i64 0]) ∧ w'.ownsRow w.heap.size 149 3 (.slice A (L.map (plK ys)).length c) (L.map (plK ys)).length (plCells (L.map (plK ys))) ∧ Below w.heap.size w w' := by
  have hC := Lib.hid h
  have hFH := Lib.hid hF
  have hLH := Lib.hid hL
  have hfH := Lib.hid hf
  have hpH := Lib.hid hp
  clear h hF hL hf hp
  go_enter Tryz.func38, Tryz.ntmps38
  go_wp2_with fail
  refine (hasForm_any _ _ _ ys _ (hC.out.below RPl.stable (by exact bel_)) (by omega)).mono ?_
  rw [hfH.out]
  rintro e w1 ⟨rfl, hb1⟩
  obtain ⟨chb1, fhb1, shb1, thb1⟩ := bcell hb1
  have l1 := shb1 (w.heap.size + 1) (by go_simp)
  have l0 := shb1 w.heap.size (by go_simp)
  go_wp2_with fail
  refine (isPart_any _ _ _ _ _ _ L _ (hFH.out.below RInt.stable (by exact bel_)) (by omega) (by omega)).mono ?_
  rw [hpH.out]
  rintro e w2 ⟨rfl, hb2⟩
  obtain ⟨chb2, fhb2, shb2, thb2⟩ := bcell hb2
  have m1 := shb2 (w.heap.size + 1) l1
  have m0 := shb2 w.heap.size l0
  go_wp2_with fail
  refine (subK_any (hC.out.below RPl.stable (by exact bel_)) (hFH.out.below RInt.stable (by exact bel_)) hk hnf hLH.out).mono ?_
  rintro e w3 ⟨A, c, rfl, hR, hb3⟩
  obtain ⟨chb3, fhb3, shb3, thb3⟩ := bcell hb3
  have n1 := shb3 (w.heap.size + 1) m1
  have hRH := Lib.hid hR
  clear hR
  go_wp2
  refine bodyPost_ret (v := .tuple #[.agg #[.slice A (L.map (plK ys)).length c], .int .i64 0]) (by simp only [results, Tryz.results38]; go_simp) rfl ?_
  refine ⟨A, c, rfl, ?_, ?_⟩
  · exact ownsRow_lo (ownsRow_setB (base := w.heap.size + 2) (ownsRow_lo hRH.out (by omega)) (p := ⟨w.heap.size + 1, 0, none⟩) (by simp only; omega) _) (by omega)
  · exact bel_
end Go.Proofs.YtmhgjgclclnmaaaGreat
/- Walks: rows of numbers that are the same, their sums. -/


namespace Go.Proofs.YtmhgjgclclnmaaaGreat
open Go.RowKit
attribute [local go_sem] BelowBy.cell BelowBy.cell_drew stillUpon givesUpon

theorem f6ints_any {A B : Option Addr} {n ca cb : Nat} {l : List Int} {w : World} (h : RdSl 1 RInt w A n l) (h2 : RdSl 1 RInt w B n l) (hn : n ≤ 1073741824) :
    Calls Tryz.prog 12 #[.slice A n ca, .slice B n cb] w fun e w' => e = .returned (.bool true) ∧ Below w.heap.size w w' := by
  have hH := Lib.hid h
  have hH2 := Lib.hid h2
  clear h h2
  go_enter Tryz.func12, Tryz.ntmps12
  go_wp2
  go_loopg [5] n (fun g i wr => ∃ j : Nat, j + g = n ∧ i = .int .i64 (j : Int) ∧ Hid (Below w.heap.size w wr))
  case atStart => exact ⟨0, by omega, rfl, Lib.hid (bl_refl _)⟩
  case round =>
    obtain ⟨j, hj, rfl, hbw⟩ := hrel
    by_cases hjn : j < n
    · have h := hH.out.below RInt.stable hbw.out
      have h2 := hH2.out.below RInt.stable hbw.out
      obtain ⟨v, hv⟩ := h.get hjn
      obtain ⟨bf, of_, hFe, hbf, hcf⟩ := h.ptr (by omega)
      obtain ⟨bg, og, hGe, hbg, hcg⟩ := h2.ptr (by omega)
      have d := hcf j v hv
      have d2 := hcg j v hv
      unfold RInt at d d2
      simp only [Nat.mul_one] at d d2
      subst hFe
      subst hGe
      have hjI : (j : Int) < (n : Int) := by omega
      have hj0 : (0 : Int) ≤ (j : Int) := by omega
      clear hcf hcg h h2
      go_wp2
      refine wp_region_ord [(0, .q), (1, .q), (2, .q), (3, .q), (4, .q), (5, .q), (6, .q), (7, .q), (8, .q)] (by kernel_rfl) (by kernel_rfl) ?_
      simp only [pick, List.filterMap_cons, List.filterMap_nil, List.getElem?_toArray, List.getElem?_cons_zero, List.getElem?_cons_succ, Option.map_some]
      repeat (first
        | ((with_reducible refine wpD_p (fun K hK => ?_)); go_simp; refine hK _ ?_; clear hK K)
        | ((with_reducible refine wpD_q (fun K hK => ?_)); go_simp; (first | refine hK _ ?_ | (go_bits; refine hK _ ?_) | (go_bits; go_simp; refine hK _ ?_)); clear hK K)
        | ((with_reducible refine wpD_g (fun K hK => ?_)); go_simp; refine hK _ _ ?_; clear hK K)
        | ((with_reducible refine wpD_g (fun K hK => ?_)); go_simp; refine ⟨Grew.of_alloc _, hK _ _ ?_⟩; clear hK K))
      with_reducible refine wpD_nil ?_
      go_wp2
      go_roundg (n - (j + 1))
      case measure => omega
      case rel => exact ⟨j + 1, by omega, by go_num, Lib.hid (bl_dr hbw.out)⟩
    · obtain rfl : j = n := by omega
      have hjE : ¬ (j : Int) < (j : Int) := by omega
      go_wp2
      go_ret
      exact ⟨rfl, hbw.out⟩
theorem sumI_bound {l : List Int} (h : ∀ v ∈ l, 0 ≤ v ∧ v ≤ 16) : 0 ≤ sumI l ∧ sumI l ≤ 16 * (l.length : Int) := by
  induction l with
  | nil => simp [sumI]
  | cons a l ih =>
    have h1 := ih (fun v hv => h v (List.mem_cons_of_mem _ hv))
    have h2 := h a (List.mem_cons_self ..)
    simp only [sumI, List.length_cons]
    omega
theorem dirB_bound {gs : List Gl} {ts : List Ti} {xs : List Pl} (hV : Valid gs ts xs) (i d : Nat) : 0 ≤ dirB gs ts xs i d ∧ dirB gs ts xs i d ≤ 4 := by
  unfold dirB
  split
  · omega
  · split
    · exact ⟨bondI_nonneg hV _ _ _, bondI_le hV _ _ _⟩
    · omega
theorem binds_bound {gs : List Gl} {ts : List Ti} {xs : List Pl} (hV : Valid gs ts xs) (k : Nat) : ∀ v ∈ bindsL gs ts xs k, 0 ≤ v ∧ v ≤ 16 := by
  intro v hv
  unfold bindsL at hv
  obtain ⟨e, he, rfl⟩ := List.mem_map.1 hv
  obtain ⟨i, hi⟩ := List.getElem?_of_mem (List.mem_of_mem_take he)
  rw [bindOf_dirs hi]
  have h0 := dirB_bound hV i 0
  have h1 := dirB_bound hV i 1
  have h2 := dirB_bound hV i 2
  have h3 := dirB_bound hV i 3
  omega
end Go.Proofs.YtmhgjgclclnmaaaGreat
