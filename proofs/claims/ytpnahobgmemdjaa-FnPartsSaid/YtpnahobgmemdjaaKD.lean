import Derived.Test.YtpnahobgmemdjaaKI
import Derived.Test.YtpnahobgmemdjaaDr1
set_option linter.unusedSimpArgs false
set_option linter.unusedVariables false
/- Plain facts: drawn assemblies. -/

namespace Go.Proofs.Ytpnahobgmemdjaa
open Go.RowKit
/-- an assembly of at most n tiles with numbers below m, all within B -/
structure DrA (xs : List Pl) (m n B : Nat) : Prop where
  len : xs.length ≤ n
  at_ : ∀ e ∈ xs, (-(B : Int) ≤ e.x ∧ e.x ≤ B) ∧ (-(B : Int) ≤ e.y ∧ e.y ≤ B) ∧ ∃ t : Nat, e.t = t ∧ t < m
  srt : xs.Pairwise fun d e => lessPt d.x d.y e.x e.y = true
theorem DrA.nil (m n B : Nat) : DrA [] m n B := ⟨by simp, fun e he => by simp at he, List.Pairwise.nil⟩
theorem DrA.more {xs : List Pl} {m n B n' B' : Nat} (h : DrA xs m n B) (hn : n ≤ n') (hB : B ≤ B') : DrA xs m n' B' :=
  ⟨Nat.le_trans h.len hn, fun e he => by obtain ⟨⟨a, b⟩, ⟨c, d⟩, t⟩ := h.at_ e he; exact ⟨⟨by omega, by omega⟩, ⟨by omega, by omega⟩, t⟩, h.srt⟩
theorem DrA.one {m n B : Nat} {x y : Int} {t : Nat} (ht : t < m) (hn : 1 ≤ n) (hx : -(B : Int) ≤ x ∧ x ≤ B) (hy : -(B : Int) ≤ y ∧ y ≤ B) : DrA [⟨x, y, t⟩] m n B :=
  ⟨by simpa using hn, fun e he => by simp at he; subst he; exact ⟨hx, hy, t, rfl, ht⟩, by simp⟩
theorem lessPt_no {a b c d : Int} (h : lessPt a b c d = true) : lessPt c d a b = false := by
  cases hh : lessPt c d a b with
  | false => rfl
  | true => have h1 := (lessPt_iff _ _ _ _).1 h; have h2 := (lessPt_iff _ _ _ _).1 hh; omega
theorem lessPt_or {a b c d : Int} (h : lessPt a b c d = false) (hne : ¬ (a = c ∧ b = d)) : lessPt c d a b = true := by
  have h1 : ¬ (b < d ∨ (b = d ∧ a < c)) := by rw [← lessPt_iff, h]; simp
  rw [lessPt_iff]; omega
/-- the place of a new point -/
theorem place_new : ∀ (xs : List Pl) (x y : Int), xs.Pairwise (fun d e => lessPt d.x d.y e.x e.y = true) → (∀ e ∈ xs, ¬ (e.x = x ∧ e.y = y)) → ∃ j, j ≤ xs.length ∧ (∀ e ∈ xs.take j, lessPt e.x e.y x y = true) ∧ ∀ e ∈ xs.drop j, lessPt x y e.x e.y = true
  | [], x, y, _, _ => ⟨0, by simp, by simp, by simp⟩
  | a :: l, x, y, hs, hne => by
    obtain ⟨h1, h2⟩ := List.pairwise_cons.1 hs
    cases hl : lessPt a.x a.y x y with
    | false =>
      have ha := lessPt_or hl (hne a (by simp))
      refine ⟨0, by simp, by simp, fun e he => ?_⟩
      simp only [List.drop_zero, List.mem_cons] at he
      rcases he with rfl | he
      · exact ha
      · exact lessPt_trans ha (h1 e he)
    | true =>
      obtain ⟨j, hj, hlo, hhi⟩ := place_new l x y h2 fun e he => hne e (by simp [he])
      refine ⟨j + 1, by simp; omega, fun e he => ?_, fun e he => ?_⟩
      · simp only [List.take_succ_cons, List.mem_cons] at he
        rcases he with rfl | he
        · exact hl
        · exact hlo e he
      · exact hhi e (by simpa using he)
theorem DrA.insert {xs : List Pl} {m n B : Nat} (h : DrA xs m n B) {x y : Int} {t : Nat} (ht : t < m) (hx : -(B : Int) ≤ x ∧ x ≤ B) (hy : -(B : Int) ≤ y ∧ y ≤ B) (hne : ∀ e ∈ xs, ¬ (e.x = x ∧ e.y = y)) :
    ∃ j, j ≤ xs.length ∧ (∀ (k : Nat) (d : Pl), k < j → xs[k]? = some d → lessPt x y d.x d.y = false) ∧ (∀ (d : Pl), xs[j]? = some d → lessPt x y d.x d.y = true) ∧ DrA (insL xs j ⟨x, y, t⟩) m (n + 1) B := by
  obtain ⟨j, hj, hlo, hhi⟩ := place_new xs x y h.srt hne
  refine ⟨j, hj, fun k d hk hd => lessPt_no (hlo d (List.mem_of_getElem? (i := k) ?_)), fun d hd => hhi d (List.mem_of_getElem? (i := 0) ?_), ?_, fun e he => ?_, ?_⟩
  · rw [List.getElem?_take, if_pos hk]; exact hd
  · rw [List.getElem?_drop]; exact hd
  · have := h.len
    unfold insL
    simp only [List.length_append, List.length_cons, List.length_take, List.length_drop]
    omega
  · unfold insL at he
    rcases List.mem_append.1 he with he | he
    · exact h.at_ e (List.mem_of_mem_take he)
    · rcases List.mem_cons.1 he with rfl | he
      · exact ⟨hx, hy, t, rfl, ht⟩
      · exact h.at_ e (List.mem_of_mem_drop he)
  · unfold insL
    have hsp : xs.take j ++ xs.drop j = xs := List.take_append_drop j xs
    have hs := h.srt
    rw [← hsp, List.pairwise_append] at hs
    rw [List.pairwise_append]
    refine ⟨hs.1, List.pairwise_cons.2 ⟨fun e he => hhi e he, hs.2.1⟩, fun a ha b hb => ?_⟩
    rcases List.mem_cons.1 hb with rfl | hb
    · exact hlo a ha
    · exact hs.2.2 a ha b hb
theorem DrA.valid {gs : List Gl} {ts : List Ti} {xs : List Pl} {m n B : Nat} (h : DrA xs m n B) (h0 : Valid gs ts []) (hm : ts.length = m) (hB : B ≤ 60) (hn : n ≤ 500) : Valid gs ts xs := by
  refine ⟨by have := h.len; omega, h0.gl, h0.tl, fun k e he => ?_, fun k e he => ?_, fun i j d e hij hd he => ?_, h0.four, h0.side, h0.str⟩
  · obtain ⟨⟨a, b⟩, ⟨c, d⟩, _⟩ := h.at_ e (List.mem_of_getElem? he)
    exact ⟨⟨by omega, by omega⟩, by omega, by omega⟩
  · obtain ⟨_, _, t, ht, htm⟩ := h.at_ e (List.mem_of_getElem? he)
    exact ⟨t, ht, by omega⟩
  · have hj := lt_of_get he
    have hi := lt_of_get hd
    have := List.pairwise_iff_getElem.1 h.srt i j hi hj hij
    rw [List.getElem?_eq_getElem hi] at hd
    rw [List.getElem?_eq_getElem hj] at he
    obtain rfl := Option.some.inj hd
    obtain rfl := Option.some.inj he
    exact this
theorem valid_nil {gs : List Gl} {ts : List Ti} (h : validSetB gs ts = true) : Valid gs ts [] := valid_of (by
  unfold validAsmB; rw [h]
  have h1 : hasFormB [] = true := hasFormB_ok (by simp) (fun j hj => by simp at hj)
  have h2 : allB ([] : List Pl).length (okTile ts.length []) = true := allB_true (fun j hj => by simp at hj)
  rw [h1, h2]; rfl)
/-- a set that stands for any of m tiles -/
theorem valid_any (m : Nat) (hm : m ≤ 160) : Valid [] (List.replicate m ⟨ByteArray.empty, [0, 0, 0, 0]⟩) [] := by
  refine ⟨by simp, by simp, by simpa using hm, fun k e h => by simp at h, fun k e h => by simp at h, fun i j d e hij h => by simp at h, fun j t h => ?_, fun j t d v h hv => ?_, fun j g h => by simp at h⟩
  · rw [List.getElem?_replicate] at h
    split at h
    · obtain rfl := Option.some.inj h; rfl
    · cases h
  · rw [List.getElem?_replicate] at h
    split at h
    · obtain rfl := Option.some.inj h
      have : v ∈ [(0 : Int), 0, 0, 0] := List.mem_of_getElem? hv
      simp at this
      exact ⟨0, by simpa using this, by simp⟩
    · cases h
theorem DrA.asm {gs : List Gl} {ts : List Ti} {xs : List Pl} {m n B : Nat} (h : DrA xs m n B) (hv : validSetB gs ts = true) (hm : ts.length = m) (hB : B ≤ 60) (hn : n ≤ 500) : validAsmB gs ts xs = true := by
  have hV := h.valid (valid_nil hv) hm hB hn
  have htl := hV.tl
  unfold validAsmB
  rw [hv]
  have h1 : hasFormB xs = true := by
    refine hasFormB_ok hV.len fun j hj => ?_
    obtain ⟨e, he⟩ : ∃ e, xs[j]? = some e := ⟨_, List.getElem?_eq_getElem hj⟩
    have hp := hV.pt j e he
    obtain ⟨t, ht, htl2⟩ := hV.ti j e he
    have hpt : validPt e.x e.y = true := by unfold validPt; rw [inB_true.2 hp.1, inB_true.2 hp.2]; rfl
    have ht2 : inB e.t 0 159 = true := inB_true.2 (by omega)
    cases j with
    | zero => rw [okPl_eq0 he, hpt, ht2]; rfl
    | succ i =>
      obtain ⟨d, hd⟩ : ∃ d, xs[i]? = some d := ⟨_, List.getElem?_eq_getElem (by omega)⟩
      rw [okPl_eqS he hd, hpt, ht2, hV.sorted i (i + 1) d e (by omega) hd he]; rfl
  have h2 : allB xs.length (okTile ts.length xs) = true := allB_true fun j hj => by
    obtain ⟨e, he⟩ : ∃ e, xs[j]? = some e := ⟨_, List.getElem?_eq_getElem hj⟩
    obtain ⟨t, ht, htl2⟩ := hV.ti j e he
    unfold okTile
    rw [he]
    exact inB_true.2 (by omega)
  rw [h1, h2]; rfl
theorem place_neg {xs : List Pl} {x y : Int} (h : placeI xs x y < 0) : ∀ e ∈ xs, ¬ (e.x = x ∧ e.y = y) := by
  intro e he hxy
  obtain ⟨k, hk⟩ := List.mem_iff_getElem?.1 he
  rcases placeI_is xs x y with ⟨_, h2⟩ | ⟨j, _, h2, _⟩
  · exact h2 k e hk hxy
  · omega
end Go.Proofs.Ytpnahobgmemdjaa
/- Walk: the reference draws an assembly (printed by gen_dr3.py). -/


namespace Go.Proofs.Ytpnahobgmemdjaa
open Go.RowKit
attribute [local go_sem] BelowBy.cell BelowBy.cell_drew stillUpon givesUpon KpBy.cell KpBy.cell_drew

def DrawAsm (p K m : Nat) (w : World) (e : Ending) (w' : World) : Prop := ∃ v xs, e = .returned (.agg #[v]) ∧ w'.ownsRow w.heap.size 38 3 v xs.length (plCells xs) ∧ DrA xs m 11 24 ∧ SrcE w' p (K + 60) ∧ Kp p w w'
theorem stepX_b {x : Int} {d B : Nat} (h : -(B : Int) ≤ x ∧ x ≤ B) : -((B + 1 : Nat) : Int) ≤ stepX x d ∧ stepX x d ≤ ((B + 1 : Nat) : Int) := by unfold stepX; split <;> (try split) <;> omega
theorem stepY_b {x : Int} {d B : Nat} (h : -(B : Int) ≤ x ∧ x ≤ B) : -((B + 1 : Nat) : Int) ≤ stepY x d ∧ stepY x d ≤ ((B + 1 : Nat) : Int) := by unfold stepY; split <;> (try split) <;> omega
theorem asmAt_of {w : World} {b base : Nat} {v : Value} {xs : List Pl} (hb : Bx w b [v]) (ho : w.ownsRow base 38 3 v xs.length (plCells xs)) : AsmAt w b 0 xs := by
  obtain ⟨A, c, rfl, hr⟩ := rdP_of_row ho
  exact ⟨hb.lt, A, _, c, hb.cell 0 _ rfl, hr⟩
theorem lstepD_any (x y : Int) (d : Nat) (w : World) (hd : d < 4) (hx : -1000 ≤ x ∧ x ≤ 1000) (hy : -1000 ≤ y ∧ y ≤ 1000) :
    Calls Try.prog 40 #[.agg #[.int .i64 x, .int .i64 y], .int .i64 d] w fun e w' => e = .returned (.agg #[.int .i64 (stepX x d), .int .i64 (stepY y d)]) ∧ Below w.heap.size w w' := l01Step_any x y d w ⟨by omega, by omega⟩ hx hy
set_option maxRecDepth 100000 in
set_option maxHeartbeats 8000000 in
theorem l03Draw_any {p K m : Nat} {w : World} (h : SrcE w p K) (hK : K ≤ 100000) (h1 : 1 ≤ m) (h2 : m ≤ 160) :
    Calls Try.prog 27 #[.pointer (some ⟨p, 0, none⟩), .int .i64 (m : Int)] w (DrawAsm p K m w) := by
  have hlt := h.lt
  have hH := Lib.hid h
  have hV0 := Lib.hid (valid_any m h2)
  clear h
  have hneR : w.heap.size ≠ p := by omega
  have hneS : w.heap.size + 1 ≠ p := by omega
  go_enter Try.func27, Try.ntmps27
  go_wp2_with fail
  refine (pickE_any 5 (hH.out.below (by exact bel_)) (by omega) rfl (by omega) (by omega)).mono ?_
  rintro e w1 ⟨va, rfl, hva, hS1, hk1⟩
  have bR1 : Hid (Bx w1 w.heap.size [.slice none 0 0]) := Lib.hid (((Bx.made w [.slice none 0 0] 26).below (bl_al (bl_refl _) _)).kp hneR hk1)
  have bS1 : Hid (Bx w1 (w.heap.size + 1) [.slice none 0 0]) := Lib.hid ((by have := Bx.made (w.alloc (Obj.cells #[.slice none 0 0] 26)) [.slice none 0 0] 26; rw [World.size_alloc] at this; exact this : Bx _ _ _).kp hneS hk1)
  have hkA1 : Hid (Kp p w w1) := Lib.hid ((((Kp.refl p w).al (by omega) _).al (by simp; omega) _).trans hk1)
  have hS1 := Lib.hid hS1
  have hwa : IntKind.i64.wrap ((va : Int) - 2) = (va : Int) - 2 := wrapI (by omega) (by omega)
  clear hk1
  go_wp2_with fail
  refine (pickE_any 5 hS1.out (by omega) rfl (by omega) (by omega)).mono ?_
  rintro e w2 ⟨vb, rfl, hvb, hS2, hk2⟩
  have bR2 := Lib.hid (bR1.out.kp hneR hk2)
  have bS2 := Lib.hid (bS1.out.kp hneS hk2)
  have hkA2 := Lib.hid (hkA1.out.trans hk2)
  have hS2 := Lib.hid hS2
  have hwb : IntKind.i64.wrap ((vb : Int) - 2) = (vb : Int) - 2 := wrapI (by omega) (by omega)
  have l2 : w.heap.size + 1 < w2.heap.size := bS2.out.lt
  have hneP : w2.heap.size ≠ p := by have := hS2.out.lt; omega
  clear hk2 hS1 bR1 bS1 hkA1
  go_wp2_with fail
  refine (pickE_any 12 (hS2.out.below (by exact bel_)) (by omega) rfl (by omega) (by omega)).mono ?_
  rintro e w3 ⟨v, rfl, hv, hS3, hk3⟩
  have hal : Below w2.heap.size w2 (w2.alloc (Obj.cells #[.int .i64 ((va : Int) - 2), .int .i64 ((vb : Int) - 2)] 34)) := bl_al (bl_refl _) _
  have bR := Lib.hid ((bR2.out.below hal).kp hneR hk3)
  have bS := Lib.hid ((bS2.out.below hal).kp hneS hk3)
  have bP : Hid (Bx w3 w2.heap.size [.int .i64 ((va : Int) - 2), .int .i64 ((vb : Int) - 2)]) := Lib.hid ((Bx.made w2 [.int .i64 ((va : Int) - 2), .int .i64 ((vb : Int) - 2)] 34).kp hneP hk3)
  have hkA := Lib.hid ((hkA2.out.thenB hlt (hal.mono (by omega))).trans hk3)
  have hS := Lib.hid hS3
  have l3 : w2.heap.size < w3.heap.size := bP.out.lt
  clear hk3 hS3 bR2 bS2 hkA2 hS2 hal hwa hwb
  go_wp2
  go_loopg [7] v (fun gq x wr => ∃ (r : Nat) (xs : List Pl) (A : Option Addr) (c : Nat) (X Y : Int), r ≤ gq ∧ r ≤ v ∧ x = .int .i64 (r : Int) ∧ Hid (DrA xs m (v - r) (2 + 2 * (v - r))) ∧ Hid ((-((2 + 2 * (v - r) : Nat) : Int) ≤ X ∧ X ≤ ((2 + 2 * (v - r) : Nat) : Int)) ∧ (-((2 + 2 * (v - r) : Nat) : Int) ≤ Y ∧ Y ≤ ((2 + 2 * (v - r) : Nat) : Int))) ∧ Hid (wr.ownsRow (w2.heap.size + 1) 38 3 (.slice A xs.length c) xs.length (plCells xs)) ∧ Hid (SrcE wr p (K + 3 + 4 * (v - r))) ∧ Hid (Kp p w wr) ∧ Hid (Bx wr w.heap.size [.slice none 0 0]) ∧ Hid (Bx wr (w.heap.size + 1) [.slice A xs.length c]) ∧ Hid (Bx wr w2.heap.size [.int .i64 X, .int .i64 Y]))
  case atStart => exact ⟨v, [], none, 0, _, _, Nat.le_refl _, Nat.le_refl _, rfl, Lib.hid (DrA.nil _ _ _), Lib.hid ⟨by omega, by omega⟩, Lib.hid (World.ownsRow_nil _ _ _ _), Lib.hid (hS.out.more (by omega)), hkA, bR, bS, bP⟩
  case round =>
    clear hS hkA bR bS bP
    obtain ⟨r0, xs, A, c, X, Y, hrg, hrv, rfl, hD, hXY, hO, hS, hkA, bR, bS, bP⟩ := hrel
    have p0 := bP.out.cell 0 _ rfl
    have p1 := bP.out.cell 1 _ rfl
    have lP := bP.out.lt
    cases r0 with
    | zero =>
      have s0 := bS.out.cell 0 _ rfl
      have lS := bS.out.lt
      have rr0 := bR.out.cell 0 _ rfl
      have rf := bR.out.froz 0
      have lR := bR.out.lt
      go_wp2
      refine bodyPost_ret (v := .agg #[.slice A xs.length c]) (by simp only [results, Try.results27]; go_simp) rfl ?_
      exact ⟨_, xs, rfl, ownsRow_lo (ownsRow_setB hO.out (by simp; omega) _) (by omega), hD.out.more (by omega) (by omega), (hS.out.belowB (B := w.heap.size) (by omega) ((Below.refl _ _).setCell (p := ⟨w.heap.size, 0, none⟩) (Nat.le_refl _) _)).more (by omega), hkA.out.thenB hlt ((Below.refl _ _).setCell (p := ⟨w.heap.size, 0, none⟩) (Nat.le_refl _) _)⟩
    | succ r =>
      have hpos : (0 : Int) < (r : Int) + 1 := by omega
      obtain ⟨B, hB⟩ : ∃ B, 2 + 2 * (v - (r + 1)) = B := ⟨_, rfl⟩
      have hB24 : B ≤ 24 := by omega
      have hBn : 2 + 2 * (v - r) = B + 2 := by omega
      have hn : v - r = v - (r + 1) + 1 := by omega
      rw [hB] at hD hXY
      obtain ⟨⟨hX1, hX2⟩, hY1, hY2⟩ := hXY.out
      have hA0 := Lib.hid (asmAt_of bS.out hO.out)
      have hV := Lib.hid (hD.out.valid hV0.out (by simp) (by omega) (by omega))
      go_wp2_with fail
      refine (l03Index_any (op := 0) _ [] (List.replicate m ⟨ByteArray.empty, [0, 0, 0, 0]⟩) xs X Y _ hA0.out hV.out).mono ?_
      rintro e w4 ⟨rfl, hb4⟩
      have bR4 := Lib.hid (bR.out.below hb4)
      have bS4 := Lib.hid (bS.out.below hb4)
      have bP4 := Lib.hid (bP.out.below hb4)
      have hO4 := Lib.hid (ownsRow_below hO.out hb4)
      have hS4 := Lib.hid (hS.out.below hb4)
      have hk4 := Lib.hid (hkA.out.then hlt hb4)
      clear hb4 hA0 hO hS hkA bR bS bP p0 p1 lP
      obtain ⟨pl, hpl⟩ : ∃ pl, placeI xs X Y = pl := ⟨_, rfl⟩
      rw [hpl]
      have p0 := bP4.out.cell 0 _ rfl
      have p1 := bP4.out.cell 1 _ rfl
      have lP := bP4.out.lt

      have hBn' : 2 + 2 * (v - (r + 1) + 1) = B + 2 := by omega
      by_cases hneg : pl < 0
      · obtain ⟨j0, hj0, hlo, hhi, hDI⟩ : ∃ j0, j0 ≤ xs.length ∧ (∀ (k : Nat) (d : Pl), k < j0 → xs[k]? = some d → lessPt X Y d.x d.y = false) ∧ (∀ (d : Pl), xs[j0]? = some d → lessPt X Y d.x d.y = true) ∧ ∀ t : Nat, t < m → DrA (insL xs j0 ⟨X, Y, t⟩) m (v - (r + 1) + 1) B := by
          obtain ⟨j, h1, h2, h3, h4⟩ := hD.out.insert (x := X) (y := Y) (t := 0) (by omega) ⟨hX1, hX2⟩ ⟨hY1, hY2⟩ (place_neg (by rw [hpl]; exact hneg))
          refine ⟨j, h1, h2, h3, fun t ht => ?_⟩
          obtain ⟨j', h1', h2', h3', h4'⟩ := hD.out.insert (x := X) (y := Y) (t := t) ht ⟨hX1, hX2⟩ ⟨hY1, hY2⟩ (place_neg (by rw [hpl]; exact hneg))
          have : j = j' := by
            rcases Nat.lt_trichotomy j j' with hlt2 | rfl | hlt2
            · obtain ⟨d, hd⟩ : ∃ d, xs[j]? = some d := ⟨_, List.getElem?_eq_getElem (by omega)⟩
              have e1 := h3 d hd; have e2 := h2' j d hlt2 hd; rw [e1] at e2; cases e2
            · rfl
            · obtain ⟨d, hd⟩ : ∃ d, xs[j']? = some d := ⟨_, List.getElem?_eq_getElem (by omega)⟩
              have e1 := h3' d hd; have e2 := h2 j' d hlt2 hd; rw [e1] at e2; cases e2
          rw [this]; exact h4'
        have hloH := Lib.hid hlo
        have hhiH := Lib.hid hhi
        have hDIH := Lib.hid hDI
        have hxl := Lib.hid hD.out.len
        clear hlo hhi hDI
        go_wp2
        refine wp_region_ordK (p := p) [(0, .q), (1, .q), (2, .q), (3, .g), (4, .g), (5, .b)] (by kernel_rfl) (by kernel_rfl) ?_
        simp only [pick, List.filterMap_cons, List.filterMap_nil, List.getElem?_toArray, List.getElem?_cons_zero, List.getElem?_cons_succ, Option.map_some]
        repeat (first | ((with_reducible refine wpK_p (fun K hK => ?_)); go_simp; refine hK _ ?_; clear hK K) | ((with_reducible refine wpK_q (fun K hK => ?_)); go_simp; (first | refine hK _ ?_ | (go_bits; refine hK _ ?_) | (go_bits; go_simp; refine hK _ ?_)); clear hK K))
        with_reducible refine wpK_g (fun K hK => ?_)
        go_simp
        go_at_call 61
        refine (pickE_any m (hS4.out.below (bl_dr (bl_refl _))) (by omega) rfl (by omega) (by omega)).mono ?_
        rintro e w5a ⟨vt, rfl, hvt, hS5a, hk5a⟩
        refine ⟨_, rfl, hk5a, hK _ _ ?_⟩
        clear hK K
        have hk5b := (Kp.refl p w4).drew.trans hk5a
        have bR5a := Lib.hid (bR4.out.kp hneR hk5b)
        have bS5a := Lib.hid (bS4.out.kp hneS hk5b)
        have bP5a := Lib.hid (bP4.out.kp hneP hk5b)
        have hO5a := Lib.hid (Own_kp hO4.out (by omega) hk5b)
        have hk5c := Lib.hid (hk4.out.trans hk5b)
        have hS5a := Lib.hid hS5a
        have lp5 := hS5a.out.lt
        clear hk5a hk5b bR4 bS4 bP4 hO4 hk4 hS4 p0 p1 lP
        repeat (first | ((with_reducible refine wpK_p (fun K hK => ?_)); go_simp; refine hK _ ?_; clear hK K) | ((with_reducible refine wpK_q (fun K hK => ?_)); go_simp; (first | refine hK _ ?_ | (go_bits; refine hK _ ?_) | (go_bits; go_simp; refine hK _ ?_)); clear hK K))
        with_reducible refine wpK_g (fun K hK => ?_)
        go_simp
        go_at_call 65
        refine (l03Put_any (op := 0) _ [] [] xs X Y vt j0 _ (asmAt_of bS5a.out hO5a.out) (by have := hxl.out; omega) hj0 hloH.out hhiH.out).mono ?_
        rintro e w5b ⟨v5, rfl, hO5, hb5⟩
        refine ⟨_, rfl, (Kp.refl _ _).then lp5 hb5, hK _ _ ?_⟩
        clear hK K
        obtain ⟨A5, c5, rfl⟩ := ownsRow_form hO5
        have hD5 := Lib.hid (hDIH.out vt hvt)
        obtain ⟨xs5, hxs5⟩ : ∃ z, z = insL xs j0 ⟨X, Y, vt⟩ := ⟨_, rfl⟩
        rw [← hxs5] at hO5 hD5 ⊢
        have bR5b := Lib.hid (bR5a.out.below hb5)
        have bS5b := Lib.hid (bS5a.out.below hb5)
        have bP5b := Lib.hid (bP5a.out.below hb5)
        have hO5b := Lib.hid (ownsRow_lo (base' := w2.heap.size + 1) hO5 (by have := bP5a.out.lt; omega))
        have hS5b := Lib.hid (hS5a.out.below hb5)
        have hk5d := Lib.hid (hk5c.out.then hlt hb5)
        have q0 := bS5b.out.cell 0 _ rfl
        have f0 := bS5b.out.froz 0
        have lq := bS5b.out.lt
        clear hb5 bR5a bS5a bP5a hO5a hO5 hS5a hk5c lp5 hxs5 hloH hhiH hDIH
        repeat (first | ((with_reducible refine wpK_p (fun K hK => ?_)); go_simp; refine hK _ ?_; clear hK K) | ((with_reducible refine wpK_q (fun K hK => ?_)); go_simp; (first | refine hK _ ?_ | (go_bits; refine hK _ ?_) | (go_bits; go_simp; refine hK _ ?_)); clear hK K))
        with_reducible refine wpK_b (fun K hK => ?_)
        go_simp
        refine hK _ _ ?_
        clear hK K
        repeat (first | ((with_reducible refine wpK_p (fun K hK => ?_)); go_simp; refine hK _ ?_; clear hK K) | ((with_reducible refine wpK_q (fun K hK => ?_)); go_simp; (first | refine hK _ ?_ | (go_bits; refine hK _ ?_) | (go_bits; go_simp; refine hK _ ?_)); clear hK K))
        with_reducible refine wpK_nil ?_
        have hP5 := Lib.hid ((Below.refl (w.heap.size + 1) w5b).setCell (p := ⟨w.heap.size + 1, 0, none⟩) (Nat.le_refl _) (.slice A5 xs5.length c5))
        have bR5 := Lib.hid (bR5b.out.belowB (by omega) hP5.out)
        have bS5 : Hid (Bx (w5b.setCell ⟨w.heap.size + 1, 0, none⟩ (.slice A5 xs5.length c5)) (w.heap.size + 1) [.slice A5 xs5.length c5]) := Lib.hid (bS5b.out.setSame 0 _)
        have bP5 := Lib.hid (bP5b.out.setOther (a := ⟨w.heap.size + 1, 0, none⟩) (by simp; omega) (.slice A5 xs5.length c5))
        have hS5 := Lib.hid (hS5b.out.belowB (by omega) hP5.out)
        have hk5 := Lib.hid (hk5d.out.thenB hlt (hP5.out.mono (by omega)))
        have hO5 := Lib.hid (ownsRow_setB hO5b.out (by simp; omega) (.slice A5 xs5.length c5) (p := ⟨w.heap.size + 1, 0, none⟩))
        obtain ⟨w5, hw5⟩ : ∃ W, W = w5b.setCell ⟨w.heap.size + 1, 0, none⟩ (.slice A5 xs5.length c5) := ⟨_, rfl⟩
        rw [← hw5] at bR5 bS5 bP5 hS5 hk5 hO5 ⊢
        clear hw5 hP5 bR5b bS5b bP5b hS5b hk5d hO5b q0 f0 lq
        have p0 := bP5.out.cell 0 _ rfl
        have p1 := bP5.out.cell 1 _ rfl
        have lP := bP5.out.lt
        go_wp2
        refine wp_region_ordK (p := p) [(0, .q), (1, .q), (2, .g), (3, .g), (4, .b)] (by kernel_rfl) (by kernel_rfl) ?_
        simp only [pick, List.filterMap_cons, List.filterMap_nil, List.getElem?_toArray, List.getElem?_cons_zero, List.getElem?_cons_succ, Option.map_some]
        repeat (first | ((with_reducible refine wpK_p (fun K hK => ?_)); go_simp; refine hK _ ?_; clear hK K) | ((with_reducible refine wpK_q (fun K hK => ?_)); go_simp; (first | refine hK _ ?_ | (go_bits; refine hK _ ?_) | (go_bits; go_simp; refine hK _ ?_)); clear hK K))
        with_reducible refine wpK_g (fun K hK => ?_)
        go_simp
        go_at_call 61
        refine (pickE_any 4 (hS5.out.below (bl_dr (bl_refl _))) (by omega) rfl (by omega) (by omega)).mono ?_
        rintro e w6a ⟨vd, rfl, hvd, hS6a, hk6a⟩
        refine ⟨_, rfl, hk6a, hK _ _ ?_⟩
        clear hK K
        have hk6b := (Kp.refl p w5).drew.trans hk6a
        have bR6a := Lib.hid (bR5.out.kp hneR hk6b)
        have bS6a := Lib.hid (bS5.out.kp hneS hk6b)
        have bP6a := Lib.hid (bP5.out.kp hneP hk6b)
        have hO6a := Lib.hid (Own_kp hO5.out (by omega) hk6b)
        have hk6c := Lib.hid (hk5.out.trans hk6b)
        have hS6a := Lib.hid hS6a
        have lp6 := hS6a.out.lt
        clear hk6a hk6b bR5 bS5 bP5 hO5 hk5 hS5 p0 p1 lP
        repeat (first | ((with_reducible refine wpK_p (fun K hK => ?_)); go_simp; refine hK _ ?_; clear hK K) | ((with_reducible refine wpK_q (fun K hK => ?_)); go_simp; (first | refine hK _ ?_ | (go_bits; refine hK _ ?_) | (go_bits; go_simp; refine hK _ ?_)); clear hK K))
        with_reducible refine wpK_g (fun K hK => ?_)
        go_simp
        go_at_call 40
        refine (lstepD_any _ _ vd _ hvd ⟨by omega, by omega⟩ ⟨by omega, by omega⟩).mono ?_
        rintro e w6b ⟨rfl, hb6⟩
        refine ⟨_, rfl, (Kp.refl _ _).then lp6 hb6, hK _ _ ?_⟩
        clear hK K
        have bR6b := Lib.hid (bR6a.out.below hb6)
        have bS6b := Lib.hid (bS6a.out.below hb6)
        have bP6b := Lib.hid (bP6a.out.below hb6)
        have hO6b := Lib.hid (ownsRow_below hO6a.out hb6)
        have hS6b := Lib.hid (hS6a.out.below hb6)
        have hk6d := Lib.hid (hk6c.out.then hlt hb6)
        have q0 := bP6b.out.cell 0 _ rfl
        have q1 := bP6b.out.cell 1 _ rfl
        have f0 := bP6b.out.froz 0
        have f1 := bP6b.out.froz 1
        have lq := bP6b.out.lt
        clear hb6 bR6a bS6a bP6a hO6a hS6a hk6c lp6
        repeat (first | ((with_reducible refine wpK_p (fun K hK => ?_)); go_simp; refine hK _ ?_; clear hK K) | ((with_reducible refine wpK_q (fun K hK => ?_)); go_simp; (first | refine hK _ ?_ | (go_bits; refine hK _ ?_) | (go_bits; go_simp; refine hK _ ?_)); clear hK K))
        with_reducible refine wpK_b (fun K hK => ?_)
        go_simp
        refine hK _ _ ?_
        clear hK K
        repeat (first | ((with_reducible refine wpK_p (fun K hK => ?_)); go_simp; refine hK _ ?_; clear hK K) | ((with_reducible refine wpK_q (fun K hK => ?_)); go_simp; (first | refine hK _ ?_ | (go_bits; refine hK _ ?_) | (go_bits; go_simp; refine hK _ ?_)); clear hK K))
        with_reducible refine wpK_nil ?_
        obtain ⟨X6, hX6⟩ : ∃ z, z = stepX X vd := ⟨_, rfl⟩
        obtain ⟨Y6, hY6⟩ : ∃ z, z = stepY Y vd := ⟨_, rfl⟩
        have bX6 := stepX_b (d := vd) ⟨hX1, hX2⟩
        have bY6 := stepY_b (d := vd) ⟨hY1, hY2⟩
        rw [← hX6] at bX6 ⊢
        rw [← hY6] at bY6 ⊢
        have hP6 := Lib.hid (((Below.refl w2.heap.size w6b).setCell (p := ⟨w2.heap.size, 0, none⟩) (Nat.le_refl _) (.int .i64 X6)).setCell (p := ⟨w2.heap.size, 1, none⟩) (Nat.le_refl _) (.int .i64 Y6))
        have bR6 := Lib.hid (bR6b.out.belowB (by omega) hP6.out)
        have bS6 := Lib.hid (bS6b.out.belowB (by omega) hP6.out)
        have bP6 : Hid (Bx ((w6b.setCell ⟨w2.heap.size, 0, none⟩ (.int .i64 X6)).setCell ⟨w2.heap.size, 1, none⟩ (.int .i64 Y6)) w2.heap.size [.int .i64 X6, .int .i64 Y6]) := Lib.hid ((bP6b.out.setSame 0 (.int .i64 X6)).setSame 1 (.int .i64 Y6))
        have hS6 := Lib.hid (hS6b.out.belowB (by omega) hP6.out)
        have hk6 := Lib.hid (hk6d.out.thenB hlt (hP6.out.mono (by omega)))
        have hO6 := Lib.hid (ownsRow_setB (ownsRow_setB hO6b.out (by simp) (.int .i64 X6) (p := ⟨w2.heap.size, 0, none⟩)) (by simp) (.int .i64 Y6) (p := ⟨w2.heap.size, 1, none⟩))
        obtain ⟨w6, hw6⟩ : ∃ W, W = (w6b.setCell ⟨w2.heap.size, 0, none⟩ (.int .i64 X6)).setCell ⟨w2.heap.size, 1, none⟩ (.int .i64 Y6) := ⟨_, rfl⟩
        rw [← hw6] at bR6 bS6 bP6 hS6 hk6 hO6 ⊢
        clear hw6 hP6 bR6b bS6b bP6b hS6b hk6d hO6b q0 q1 f0 f1 lq hX6 hY6
        have hS6x := hS6
        have lp6 := hS6.out.lt
        go_wp2_with fail
        refine (oneE_any 10 hS6.out (by omega) rfl (by omega) (by omega)).mono ?_
        rintro e w7 ⟨vo, rfl, hS7, hk7⟩
        have bR7 := Lib.hid (bR6.out.kp hneR hk7)
        have bS7 := Lib.hid (bS6.out.kp hneS hk7)
        have bP7 := Lib.hid (bP6.out.kp hneP hk7)
        have hO7 := Lib.hid (Own_kp hO6.out (by omega) hk7)
        have hkw7 := Lib.hid (hk6.out.trans hk7)
        have hS7 := Lib.hid hS7
        clear hk7 bR6 bS6 bP6 hO6 hk6 hS6 hS6x lp6
        have hk7 := hkw7
        clear hkw7
        cases vo
        · go_wp2
          go_roundg r
          case measure => omega
          case rel => exact ⟨r, xs5, A5, c5, X6, Y6, Nat.le_refl _, by omega, by go_num, Lib.hid (by rw [hn, hBn']; exact hD5.out.more (Nat.le_refl _) (by omega)), Lib.hid (by rw [hn, hBn']; exact ⟨⟨by omega, by omega⟩, by omega, by omega⟩), hO7, Lib.hid (hS7.out.more (by omega)), hk7, bR7, bS7, bP7⟩
        · have p0 := bP7.out.cell 0 _ rfl
          have p1 := bP7.out.cell 1 _ rfl
          have lP := bP7.out.lt
          go_wp2
          refine wp_region_ordK (p := p) [(0, .q), (1, .q), (2, .g), (3, .g), (4, .b)] (by kernel_rfl) (by kernel_rfl) ?_
          simp only [pick, List.filterMap_cons, List.filterMap_nil, List.getElem?_toArray, List.getElem?_cons_zero, List.getElem?_cons_succ, Option.map_some]
          repeat (first | ((with_reducible refine wpK_p (fun K hK => ?_)); go_simp; refine hK _ ?_; clear hK K) | ((with_reducible refine wpK_q (fun K hK => ?_)); go_simp; (first | refine hK _ ?_ | (go_bits; refine hK _ ?_) | (go_bits; go_simp; refine hK _ ?_)); clear hK K))
          with_reducible refine wpK_g (fun K hK => ?_)
          go_simp
          go_at_call 61
          refine (pickE_any 4 (hS7.out.below (bl_dr (bl_refl _))) (by omega) rfl (by omega) (by omega)).mono ?_
          rintro e w8a ⟨vd, rfl, hvd, hS8a, hk8a⟩
          refine ⟨_, rfl, hk8a, hK _ _ ?_⟩
          clear hK K
          have hk8b := (Kp.refl p w7).drew.trans hk8a
          have bR8a := Lib.hid (bR7.out.kp hneR hk8b)
          have bS8a := Lib.hid (bS7.out.kp hneS hk8b)
          have bP8a := Lib.hid (bP7.out.kp hneP hk8b)
          have hO8a := Lib.hid (Own_kp hO7.out (by omega) hk8b)
          have hk8c := Lib.hid (hk7.out.trans hk8b)
          have hS8a := Lib.hid hS8a
          have lp8 := hS8a.out.lt
          clear hk8a hk8b bR7 bS7 bP7 hO7 hk7 hS7 p0 p1 lP
          repeat (first | ((with_reducible refine wpK_p (fun K hK => ?_)); go_simp; refine hK _ ?_; clear hK K) | ((with_reducible refine wpK_q (fun K hK => ?_)); go_simp; (first | refine hK _ ?_ | (go_bits; refine hK _ ?_) | (go_bits; go_simp; refine hK _ ?_)); clear hK K))
          with_reducible refine wpK_g (fun K hK => ?_)
          go_simp
          go_at_call 40
          refine (lstepD_any _ _ vd _ hvd ⟨by omega, by omega⟩ ⟨by omega, by omega⟩).mono ?_
          rintro e w8b ⟨rfl, hb8⟩
          refine ⟨_, rfl, (Kp.refl _ _).then lp8 hb8, hK _ _ ?_⟩
          clear hK K
          have bR8b := Lib.hid (bR8a.out.below hb8)
          have bS8b := Lib.hid (bS8a.out.below hb8)
          have bP8b := Lib.hid (bP8a.out.below hb8)
          have hO8b := Lib.hid (ownsRow_below hO8a.out hb8)
          have hS8b := Lib.hid (hS8a.out.below hb8)
          have hk8d := Lib.hid (hk8c.out.then hlt hb8)
          have q0 := bP8b.out.cell 0 _ rfl
          have q1 := bP8b.out.cell 1 _ rfl
          have f0 := bP8b.out.froz 0
          have f1 := bP8b.out.froz 1
          have lq := bP8b.out.lt
          clear hb8 bR8a bS8a bP8a hO8a hS8a hk8c lp8
          repeat (first | ((with_reducible refine wpK_p (fun K hK => ?_)); go_simp; refine hK _ ?_; clear hK K) | ((with_reducible refine wpK_q (fun K hK => ?_)); go_simp; (first | refine hK _ ?_ | (go_bits; refine hK _ ?_) | (go_bits; go_simp; refine hK _ ?_)); clear hK K))
          with_reducible refine wpK_b (fun K hK => ?_)
          go_simp
          refine hK _ _ ?_
          clear hK K
          repeat (first | ((with_reducible refine wpK_p (fun K hK => ?_)); go_simp; refine hK _ ?_; clear hK K) | ((with_reducible refine wpK_q (fun K hK => ?_)); go_simp; (first | refine hK _ ?_ | (go_bits; refine hK _ ?_) | (go_bits; go_simp; refine hK _ ?_)); clear hK K))
          with_reducible refine wpK_nil ?_
          obtain ⟨X8, hX8⟩ : ∃ z, z = stepX X6 vd := ⟨_, rfl⟩
          obtain ⟨Y8, hY8⟩ : ∃ z, z = stepY Y6 vd := ⟨_, rfl⟩
          have bX8 := stepX_b (d := vd) bX6
          have bY8 := stepY_b (d := vd) bY6
          rw [← hX8] at bX8 ⊢
          rw [← hY8] at bY8 ⊢
          have hP8 := Lib.hid (((Below.refl w2.heap.size w8b).setCell (p := ⟨w2.heap.size, 0, none⟩) (Nat.le_refl _) (.int .i64 X8)).setCell (p := ⟨w2.heap.size, 1, none⟩) (Nat.le_refl _) (.int .i64 Y8))
          have bR8 := Lib.hid (bR8b.out.belowB (by omega) hP8.out)
          have bS8 := Lib.hid (bS8b.out.belowB (by omega) hP8.out)
          have bP8 : Hid (Bx ((w8b.setCell ⟨w2.heap.size, 0, none⟩ (.int .i64 X8)).setCell ⟨w2.heap.size, 1, none⟩ (.int .i64 Y8)) w2.heap.size [.int .i64 X8, .int .i64 Y8]) := Lib.hid ((bP8b.out.setSame 0 (.int .i64 X8)).setSame 1 (.int .i64 Y8))
          have hS8 := Lib.hid (hS8b.out.belowB (by omega) hP8.out)
          have hk8 := Lib.hid (hk8d.out.thenB hlt (hP8.out.mono (by omega)))
          have hO8 := Lib.hid (ownsRow_setB (ownsRow_setB hO8b.out (by simp) (.int .i64 X8) (p := ⟨w2.heap.size, 0, none⟩)) (by simp) (.int .i64 Y8) (p := ⟨w2.heap.size, 1, none⟩))
          obtain ⟨w8, hw8⟩ : ∃ W, W = (w8b.setCell ⟨w2.heap.size, 0, none⟩ (.int .i64 X8)).setCell ⟨w2.heap.size, 1, none⟩ (.int .i64 Y8) := ⟨_, rfl⟩
          rw [← hw8] at bR8 bS8 bP8 hS8 hk8 hO8 ⊢
          clear hw8 hP8 bR8b bS8b bP8b hS8b hk8d hO8b q0 q1 f0 f1 lq hX8 hY8
          go_wp2
          go_roundg r
          case measure => omega
          case rel => exact ⟨r, xs5, A5, c5, X8, Y8, Nat.le_refl _, by omega, by go_num, Lib.hid (by rw [hn, hBn']; exact hD5.out.more (Nat.le_refl _) (by omega)), Lib.hid (by rw [hn, hBn']; exact ⟨⟨by omega, by omega⟩, by omega, by omega⟩), hO8, Lib.hid (hS8.out.more (by omega)), hk8, bR8, bS8, bP8⟩
      · have hneg2 : ¬ pl < 0 := hneg
        go_wp2
        refine wp_region_ordK (p := p) [(0, .q), (1, .q), (2, .g), (3, .g), (4, .b)] (by kernel_rfl) (by kernel_rfl) ?_
        simp only [pick, List.filterMap_cons, List.filterMap_nil, List.getElem?_toArray, List.getElem?_cons_zero, List.getElem?_cons_succ, Option.map_some]
        repeat (first | ((with_reducible refine wpK_p (fun K hK => ?_)); go_simp; refine hK _ ?_; clear hK K) | ((with_reducible refine wpK_q (fun K hK => ?_)); go_simp; (first | refine hK _ ?_ | (go_bits; refine hK _ ?_) | (go_bits; go_simp; refine hK _ ?_)); clear hK K))
        with_reducible refine wpK_g (fun K hK => ?_)
        go_simp
        go_at_call 61
        refine (pickE_any 4 (hS4.out.below (bl_dr (bl_refl _))) (by omega) rfl (by omega) (by omega)).mono ?_
        rintro e w6a ⟨vd, rfl, hvd, hS6a, hk6a⟩
        refine ⟨_, rfl, hk6a, hK _ _ ?_⟩
        clear hK K
        have hk6b := (Kp.refl p w4).drew.trans hk6a
        have bR6a := Lib.hid (bR4.out.kp hneR hk6b)
        have bS6a := Lib.hid (bS4.out.kp hneS hk6b)
        have bP6a := Lib.hid (bP4.out.kp hneP hk6b)
        have hO6a := Lib.hid (Own_kp hO4.out (by omega) hk6b)
        have hk6c := Lib.hid (hk4.out.trans hk6b)
        have hS6a := Lib.hid hS6a
        have lp6 := hS6a.out.lt
        clear hk6a hk6b bR4 bS4 bP4 hO4 hk4 hS4 p0 p1 lP
        repeat (first | ((with_reducible refine wpK_p (fun K hK => ?_)); go_simp; refine hK _ ?_; clear hK K) | ((with_reducible refine wpK_q (fun K hK => ?_)); go_simp; (first | refine hK _ ?_ | (go_bits; refine hK _ ?_) | (go_bits; go_simp; refine hK _ ?_)); clear hK K))
        with_reducible refine wpK_g (fun K hK => ?_)
        go_simp
        go_at_call 40
        refine (lstepD_any _ _ vd _ hvd ⟨by omega, by omega⟩ ⟨by omega, by omega⟩).mono ?_
        rintro e w6b ⟨rfl, hb6⟩
        refine ⟨_, rfl, (Kp.refl _ _).then lp6 hb6, hK _ _ ?_⟩
        clear hK K
        have bR6b := Lib.hid (bR6a.out.below hb6)
        have bS6b := Lib.hid (bS6a.out.below hb6)
        have bP6b := Lib.hid (bP6a.out.below hb6)
        have hO6b := Lib.hid (ownsRow_below hO6a.out hb6)
        have hS6b := Lib.hid (hS6a.out.below hb6)
        have hk6d := Lib.hid (hk6c.out.then hlt hb6)
        have q0 := bP6b.out.cell 0 _ rfl
        have q1 := bP6b.out.cell 1 _ rfl
        have f0 := bP6b.out.froz 0
        have f1 := bP6b.out.froz 1
        have lq := bP6b.out.lt
        clear hb6 bR6a bS6a bP6a hO6a hS6a hk6c lp6
        repeat (first | ((with_reducible refine wpK_p (fun K hK => ?_)); go_simp; refine hK _ ?_; clear hK K) | ((with_reducible refine wpK_q (fun K hK => ?_)); go_simp; (first | refine hK _ ?_ | (go_bits; refine hK _ ?_) | (go_bits; go_simp; refine hK _ ?_)); clear hK K))
        with_reducible refine wpK_b (fun K hK => ?_)
        go_simp
        refine hK _ _ ?_
        clear hK K
        repeat (first | ((with_reducible refine wpK_p (fun K hK => ?_)); go_simp; refine hK _ ?_; clear hK K) | ((with_reducible refine wpK_q (fun K hK => ?_)); go_simp; (first | refine hK _ ?_ | (go_bits; refine hK _ ?_) | (go_bits; go_simp; refine hK _ ?_)); clear hK K))
        with_reducible refine wpK_nil ?_
        obtain ⟨X6, hX6⟩ : ∃ z, z = stepX X vd := ⟨_, rfl⟩
        obtain ⟨Y6, hY6⟩ : ∃ z, z = stepY Y vd := ⟨_, rfl⟩
        have bX6 := stepX_b (d := vd) ⟨hX1, hX2⟩
        have bY6 := stepY_b (d := vd) ⟨hY1, hY2⟩
        rw [← hX6] at bX6 ⊢
        rw [← hY6] at bY6 ⊢
        have hP6 := Lib.hid (((Below.refl w2.heap.size w6b).setCell (p := ⟨w2.heap.size, 0, none⟩) (Nat.le_refl _) (.int .i64 X6)).setCell (p := ⟨w2.heap.size, 1, none⟩) (Nat.le_refl _) (.int .i64 Y6))
        have bR6 := Lib.hid (bR6b.out.belowB (by omega) hP6.out)
        have bS6 := Lib.hid (bS6b.out.belowB (by omega) hP6.out)
        have bP6 : Hid (Bx ((w6b.setCell ⟨w2.heap.size, 0, none⟩ (.int .i64 X6)).setCell ⟨w2.heap.size, 1, none⟩ (.int .i64 Y6)) w2.heap.size [.int .i64 X6, .int .i64 Y6]) := Lib.hid ((bP6b.out.setSame 0 (.int .i64 X6)).setSame 1 (.int .i64 Y6))
        have hS6 := Lib.hid (hS6b.out.belowB (by omega) hP6.out)
        have hk6 := Lib.hid (hk6d.out.thenB hlt (hP6.out.mono (by omega)))
        have hO6 := Lib.hid (ownsRow_setB (ownsRow_setB hO6b.out (by simp) (.int .i64 X6) (p := ⟨w2.heap.size, 0, none⟩)) (by simp) (.int .i64 Y6) (p := ⟨w2.heap.size, 1, none⟩))
        obtain ⟨w6, hw6⟩ : ∃ W, W = (w6b.setCell ⟨w2.heap.size, 0, none⟩ (.int .i64 X6)).setCell ⟨w2.heap.size, 1, none⟩ (.int .i64 Y6) := ⟨_, rfl⟩
        rw [← hw6] at bR6 bS6 bP6 hS6 hk6 hO6 ⊢
        clear hw6 hP6 bR6b bS6b bP6b hS6b hk6d hO6b q0 q1 f0 f1 lq hX6 hY6
        have hS6x := hS6
        have lp6 := hS6.out.lt
        go_wp2_with fail
        refine (oneE_any 10 hS6.out (by omega) rfl (by omega) (by omega)).mono ?_
        rintro e w7 ⟨vo, rfl, hS7, hk7⟩
        have bR7 := Lib.hid (bR6.out.kp hneR hk7)
        have bS7 := Lib.hid (bS6.out.kp hneS hk7)
        have bP7 := Lib.hid (bP6.out.kp hneP hk7)
        have hO7 := Lib.hid (Own_kp hO6.out (by omega) hk7)
        have hkw7 := Lib.hid (hk6.out.trans hk7)
        have hS7 := Lib.hid hS7
        clear hk7 bR6 bS6 bP6 hO6 hk6 hS6 hS6x lp6
        have hk7 := hkw7
        clear hkw7
        cases vo
        · go_wp2
          go_roundg r
          case measure => omega
          case rel => exact ⟨r, xs, A, c, X6, Y6, Nat.le_refl _, by omega, by go_num, Lib.hid (by rw [hn, hBn']; exact hD.out.more (by omega) (by omega)), Lib.hid (by rw [hn, hBn']; exact ⟨⟨by omega, by omega⟩, by omega, by omega⟩), hO7, Lib.hid (hS7.out.more (by omega)), hk7, bR7, bS7, bP7⟩
        · have p0 := bP7.out.cell 0 _ rfl
          have p1 := bP7.out.cell 1 _ rfl
          have lP := bP7.out.lt
          go_wp2
          refine wp_region_ordK (p := p) [(0, .q), (1, .q), (2, .g), (3, .g), (4, .b)] (by kernel_rfl) (by kernel_rfl) ?_
          simp only [pick, List.filterMap_cons, List.filterMap_nil, List.getElem?_toArray, List.getElem?_cons_zero, List.getElem?_cons_succ, Option.map_some]
          repeat (first | ((with_reducible refine wpK_p (fun K hK => ?_)); go_simp; refine hK _ ?_; clear hK K) | ((with_reducible refine wpK_q (fun K hK => ?_)); go_simp; (first | refine hK _ ?_ | (go_bits; refine hK _ ?_) | (go_bits; go_simp; refine hK _ ?_)); clear hK K))
          with_reducible refine wpK_g (fun K hK => ?_)
          go_simp
          go_at_call 61
          refine (pickE_any 4 (hS7.out.below (bl_dr (bl_refl _))) (by omega) rfl (by omega) (by omega)).mono ?_
          rintro e w8a ⟨vd, rfl, hvd, hS8a, hk8a⟩
          refine ⟨_, rfl, hk8a, hK _ _ ?_⟩
          clear hK K
          have hk8b := (Kp.refl p w7).drew.trans hk8a
          have bR8a := Lib.hid (bR7.out.kp hneR hk8b)
          have bS8a := Lib.hid (bS7.out.kp hneS hk8b)
          have bP8a := Lib.hid (bP7.out.kp hneP hk8b)
          have hO8a := Lib.hid (Own_kp hO7.out (by omega) hk8b)
          have hk8c := Lib.hid (hk7.out.trans hk8b)
          have hS8a := Lib.hid hS8a
          have lp8 := hS8a.out.lt
          clear hk8a hk8b bR7 bS7 bP7 hO7 hk7 hS7 p0 p1 lP
          repeat (first | ((with_reducible refine wpK_p (fun K hK => ?_)); go_simp; refine hK _ ?_; clear hK K) | ((with_reducible refine wpK_q (fun K hK => ?_)); go_simp; (first | refine hK _ ?_ | (go_bits; refine hK _ ?_) | (go_bits; go_simp; refine hK _ ?_)); clear hK K))
          with_reducible refine wpK_g (fun K hK => ?_)
          go_simp
          go_at_call 40
          refine (lstepD_any _ _ vd _ hvd ⟨by omega, by omega⟩ ⟨by omega, by omega⟩).mono ?_
          rintro e w8b ⟨rfl, hb8⟩
          refine ⟨_, rfl, (Kp.refl _ _).then lp8 hb8, hK _ _ ?_⟩
          clear hK K
          have bR8b := Lib.hid (bR8a.out.below hb8)
          have bS8b := Lib.hid (bS8a.out.below hb8)
          have bP8b := Lib.hid (bP8a.out.below hb8)
          have hO8b := Lib.hid (ownsRow_below hO8a.out hb8)
          have hS8b := Lib.hid (hS8a.out.below hb8)
          have hk8d := Lib.hid (hk8c.out.then hlt hb8)
          have q0 := bP8b.out.cell 0 _ rfl
          have q1 := bP8b.out.cell 1 _ rfl
          have f0 := bP8b.out.froz 0
          have f1 := bP8b.out.froz 1
          have lq := bP8b.out.lt
          clear hb8 bR8a bS8a bP8a hO8a hS8a hk8c lp8
          repeat (first | ((with_reducible refine wpK_p (fun K hK => ?_)); go_simp; refine hK _ ?_; clear hK K) | ((with_reducible refine wpK_q (fun K hK => ?_)); go_simp; (first | refine hK _ ?_ | (go_bits; refine hK _ ?_) | (go_bits; go_simp; refine hK _ ?_)); clear hK K))
          with_reducible refine wpK_b (fun K hK => ?_)
          go_simp
          refine hK _ _ ?_
          clear hK K
          repeat (first | ((with_reducible refine wpK_p (fun K hK => ?_)); go_simp; refine hK _ ?_; clear hK K) | ((with_reducible refine wpK_q (fun K hK => ?_)); go_simp; (first | refine hK _ ?_ | (go_bits; refine hK _ ?_) | (go_bits; go_simp; refine hK _ ?_)); clear hK K))
          with_reducible refine wpK_nil ?_
          obtain ⟨X8, hX8⟩ : ∃ z, z = stepX X6 vd := ⟨_, rfl⟩
          obtain ⟨Y8, hY8⟩ : ∃ z, z = stepY Y6 vd := ⟨_, rfl⟩
          have bX8 := stepX_b (d := vd) bX6
          have bY8 := stepY_b (d := vd) bY6
          rw [← hX8] at bX8 ⊢
          rw [← hY8] at bY8 ⊢
          have hP8 := Lib.hid (((Below.refl w2.heap.size w8b).setCell (p := ⟨w2.heap.size, 0, none⟩) (Nat.le_refl _) (.int .i64 X8)).setCell (p := ⟨w2.heap.size, 1, none⟩) (Nat.le_refl _) (.int .i64 Y8))
          have bR8 := Lib.hid (bR8b.out.belowB (by omega) hP8.out)
          have bS8 := Lib.hid (bS8b.out.belowB (by omega) hP8.out)
          have bP8 : Hid (Bx ((w8b.setCell ⟨w2.heap.size, 0, none⟩ (.int .i64 X8)).setCell ⟨w2.heap.size, 1, none⟩ (.int .i64 Y8)) w2.heap.size [.int .i64 X8, .int .i64 Y8]) := Lib.hid ((bP8b.out.setSame 0 (.int .i64 X8)).setSame 1 (.int .i64 Y8))
          have hS8 := Lib.hid (hS8b.out.belowB (by omega) hP8.out)
          have hk8 := Lib.hid (hk8d.out.thenB hlt (hP8.out.mono (by omega)))
          have hO8 := Lib.hid (ownsRow_setB (ownsRow_setB hO8b.out (by simp) (.int .i64 X8) (p := ⟨w2.heap.size, 0, none⟩)) (by simp) (.int .i64 Y8) (p := ⟨w2.heap.size, 1, none⟩))
          obtain ⟨w8, hw8⟩ : ∃ W, W = (w8b.setCell ⟨w2.heap.size, 0, none⟩ (.int .i64 X8)).setCell ⟨w2.heap.size, 1, none⟩ (.int .i64 Y8) := ⟨_, rfl⟩
          rw [← hw8] at bR8 bS8 bP8 hS8 hk8 hO8 ⊢
          clear hw8 hP8 bR8b bS8b bP8b hS8b hk8d hO8b q0 q1 f0 f1 lq hX8 hY8
          go_wp2
          go_roundg r
          case measure => omega
          case rel => exact ⟨r, xs, A, c, X8, Y8, Nat.le_refl _, by omega, by go_num, Lib.hid (by rw [hn, hBn']; exact hD.out.more (by omega) (by omega)), Lib.hid (by rw [hn, hBn']; exact ⟨⟨by omega, by omega⟩, by omega, by omega⟩), hO8, Lib.hid (hS8.out.more (by omega)), hk8, bR8, bS8, bP8⟩
end Go.Proofs.Ytpnahobgmemdjaa
