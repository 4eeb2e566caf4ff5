import Derived.Test.YtpnahobgmemdjaaKD
import Derived.Test.YtpnahobgmemdjaaOrdApp
import Derived.Test.YtpnahobgmemdjaaKC
import Derived.Test.YtpnahobgmemdjaaN1
set_option linter.unusedSimpArgs false
set_option linter.unusedVariables false
/- Walks: an assembly drawn from bytes, seldom not valid: any row of placed tiles. -/

namespace Go.Proofs.Ytpnahobgmemdjaa
open Go.RowKit
attribute [local go_sem] BelowBy.cell BelowBy.cell_drew stillUpon givesUpon KpBy.cell KpBy.cell_drew

/-- a drawn row of placed tiles, whatever they are -/
def DrawAny (p K L : Nat) (w : World) (e : Ending) (w' : World) : Prop := ∃ A c xs N, e = .returned (.agg #[.slice A N c]) ∧ w'.ownsRow w.heap.size 38 3 (.slice A N c) N (plCells xs) ∧ xs.length = N ∧ N ≤ L ∧ SrcE w' p K ∧ Kp p w w'
theorem wrapPb {n : Int} (h1 : -9000000000000000000 ≤ n) (h2 : n ≤ 9000000000000000000) : IntKind.i64.wrap n = n := by
  simp [IntKind.wrap, IntKind.bits, IntKind.signed]; omega
theorem cell_three_newP (w : World) (a b c : Value) (t : TypeId) : ∀ j u, [a, b, c][j]? = some u → (w.alloc (Obj.cells #[a, b, c] t)).cell? ((⟨w.heap.size, 0, none⟩ : Addr).add j) = some u := by
  intro j u hj
  match j, hj with
  | 0, hj => simp at hj; subst hj; simp [Addr.add]
  | 1, hj => simp at hj; subst hj; simp [Addr.add]
  | 2, hj => simp at hj; subst hj; simp [Addr.add]
  | j + 3, hj => simp at hj
theorem own_baseP {w : World} {base base' : Nat} {e : TypeId} {size : Nat} {v : Value} {n : Nat} {xs : List Value} (h : w.ownsRow base e size v n xs) (hb : base' ≤ base) : w.ownsRow base' e size v n xs :=
  ⟨h.1, h.2.imp id (fun ⟨g, cap, cur, h1, h2, h3⟩ => ⟨g, cap, cur, h1, Nat.le_trans hb h2, h3⟩)⟩
set_option maxRecDepth 100000 in
theorem amongE_any {p K q N : Nat} {L : List Int} {w : World} (h : SrcE w p K) (hK : K ≤ 900000) (hL : L.length = N) (h1 : 1 ≤ N) (h2 : N ≤ 200) (hq : q < w.heap.size) (hqp : q ≠ p) (hc : ∀ i v, L[i]? = some v → w.cell? ⟨q, i, none⟩ = some (.int .i64 v)) :
    Calls Try.prog 62 #[.pointer (some ⟨p, 0, none⟩), .slice (some ⟨q, 0, none⟩) N N] w fun e w' => ∃ v : Int, e = .returned (.int .i64 v) ∧ SrcE w' p (K + 1) ∧ Kp p w w' := by
  have hH := Lib.hid h
  have hcH := Lib.hid hc
  clear h hc
  go_enter Try.func62, Try.ntmps62
  go_wp2_with fail
  refine (pickE_any N hH.out hK rfl h1 h2).mono ?_
  rintro e w1 ⟨v, rfl, hv, hS, hb⟩
  have hSH := Lib.hid hS
  have hbH := Lib.hid hb
  obtain ⟨x, hx⟩ : ∃ x, L[v]? = some x := ⟨_, List.getElem?_eq_getElem (by omega)⟩
  have hcx := (World.cell?_of_block (a := ⟨q, v, none⟩) (hb.keep q hqp hq)).trans (hcH.out v x hx)
  have hv0 : (0 : Int) ≤ (v : Int) := by omega
  have hvN : (v : Int) < (N : Int) := by omega
  have hq1 : q < w1.heap.size := Nat.lt_of_lt_of_le hq hb.below.size
  clear hS hb hx
  go_wp2
  go_ret
  exact ⟨x, rfl, hSH.out, hbH.out⟩
set_option maxRecDepth 100000 in
set_option maxHeartbeats 2000000 in
theorem l03Full_any {p K : Nat} {w : World} (h : SrcE w p K) (hK : K ≤ 100000) :
    Calls Try.prog 63 #[.pointer (some ⟨p, 0, none⟩)] w (DrawAny p (K + 1) 501 w) := by
  obtain ⟨iP, hP, hP0, hP1, hP2⟩ := info_parts infoPl
  have hlt := h.lt
  have hH := Lib.hid h
  clear h
  have hneR : w.heap.size ≠ p := by omega
  have hneA : w.heap.size + 1 ≠ p := by omega
  go_enter Try.func63, Try.ntmps63
  go_wp2_with fail
  obtain ⟨a0, ha0⟩ : ∃ W, W = w.alloc (Obj.cells #[.slice none 0 0] 26) := ⟨_, rfl⟩
  rw [← ha0]
  have s0 : a0.heap.size = w.heap.size + 1 := by rw [ha0, World.size_alloc]
  have b0 : Below w.heap.size w a0 := by rw [ha0]; exact bl_al (bl_refl _) _
  obtain ⟨a1, ha1⟩ : ∃ W, W = a0.alloc (Obj.cells #[.slice none 0 0] 26) := ⟨_, rfl⟩
  rw [← ha1]
  have s1 : a1.heap.size = w.heap.size + 1 + 1 := by rw [ha1, World.size_alloc]; rw [s0]
  have b1 : Below a0.heap.size a0 a1 := by rw [ha1]; exact bl_al (bl_refl _) _
  have bw : Below w.heap.size w a1 := bl_tr b0 b1
  have bR0 : Hid (Bx a1 w.heap.size [.slice none 0 0]) := Lib.hid (by have hm := Bx.made w [.slice none 0 0] 26; rw [← ha0] at hm; exact hm.below b1)
  have bA0 : Hid (Bx a1 (w.heap.size + 1) [.slice none 0 0]) := Lib.hid (by have hm := Bx.made a0 [.slice none 0 0] 26; rw [← ha1] at hm; rw [s0] at hm; exact hm)
  have hS0 := Lib.hid (hH.out.below bw)
  have hkA0 := Lib.hid ((Kp.refl p w).thenB hlt bw)
  have l1 : w.heap.size + 2 ≤ a1.heap.size := by omega
  clear ha0 ha1 s0 s1 b0 b1 bw
  refine (pickE_any 3 hS0.out (by omega) rfl (by omega) (by omega)).mono ?_
  rintro e w1 ⟨v, rfl, hv, hS1, hk1⟩
  have bR := Lib.hid (bR0.out.kp hneR hk1)
  have bA := Lib.hid (bA0.out.kp hneA hk1)
  have hkA := Lib.hid (hkA0.out.trans hk1)
  have hS := Lib.hid hS1
  have l2 : w.heap.size + 2 ≤ w1.heap.size := Nat.le_trans l1 hk1.below.size
  obtain ⟨N, hN⟩ : ∃ N : Nat, 499 + v = N := ⟨_, rfl⟩
  have hwN : IntKind.i64.wrap (499 + (v : Int)) = (N : Int) := by rw [wrapPb (by omega) (by omega)]; omega
  have hN5 : N ≤ 501 := by omega
  clear hN hk1 hS1 bR0 bA0 hkA0 hS0 l1
  go_wp2
  clear hwN
  go_loopg [5] N (fun g i wr => ∃ (k : Nat) (xs : List Pl) (A : Option Addr) (c : Nat), k + g = N ∧ i = .int .i64 (k : Int) ∧ Hid (xs.length = k) ∧ Hid (wr.ownsRow (w.heap.size + 2) 38 3 (.slice A k c) k (plCells xs)) ∧ Hid (SrcE wr p (K + 1)) ∧ Hid (Kp p w wr) ∧ Hid (Bx wr w.heap.size [.slice none 0 0]) ∧ Hid (Bx wr (w.heap.size + 1) [.slice A k c]) ∧ w.heap.size + 2 ≤ wr.heap.size)
  case atStart => exact ⟨0, [], none, 0, by omega, rfl, Lib.hid rfl, Lib.hid (World.ownsRow_nil _ _ _ _), hS, hkA, bR, bA, l2⟩
  case round =>
    clear hS hkA bR bA l2
    obtain ⟨k, xs, A, c, hk, rfl, hxl, hO, hS, hkA, bR, bA, l2⟩ := hrel
    have a0 := bA.out.cell 0 _ rfl
    have af := bA.out.froz 0
    have la := bA.out.lt
    by_cases hkN : k < N
    · obtain ⟨rm, hrm⟩ : ∃ rm, rm = k % 100 := ⟨_, rfl⟩
      obtain ⟨qd, hqd⟩ : ∃ qd, qd = k / 100 := ⟨_, rfl⟩
      have hkI : (k : Int) < (N : Int) := by omega
      have hmod : (k : Int).tmod 100 = (rm : Int) := by rw [hrm]; rfl
      have hdiv : (k : Int).tdiv 100 = (qd : Int) := by rw [hqd]; rfl
      obtain ⟨X, hX⟩ : ∃ X : Int, (rm : Int) - 50 = X := ⟨_, rfl⟩
      have hwX : IntKind.i64.wrap ((rm : Int) - 50) = X := by rw [wrapPb (by omega) (by omega)]; exact hX
      have hwq : IntKind.i64.wrap (qd : Int) = (qd : Int) := wrapPb (by omega) (by omega)
      have hwr : IntKind.i64.wrap (rm : Int) = (rm : Int) := wrapPb (by omega) (by omega)
      have hal : Below wr.heap.size wr (wr.alloc (Obj.cells #[.int .i64 X, .int .i64 (qd : Int), .int .i64 0] 38)) := bl_al (bl_refl _) _
      have hO1 := Lib.hid (ownsRow_below hO.out hal)
      have halH := Lib.hid hal
      clear hrm hqd hX hal
      go_wp2_with (at_builtin; go_loud (refine wpList_append_own_at _ rfl _ _ 24 rfl (w.heap.size + 2) 38 iP (.agg #[.int .i64 0, .int .i64 0, .int .i64 0]) 3 24 Try.underlying24 hP hP0 hP1 hP2 rfl (by decide) (.slice A k c) k (plCells xs) rfl hO1.out ⟨wr.heap.size, 0, none⟩ 1 1 [.int .i64 X, .int .i64 (qd : Int), .int .i64 0] rfl rfl (cell_three_newP _ _ _ _ _) (fun x hx => by simp at hx; rcases hx with rfl | rfl | rfl <;> rfl) (by unfold maxLen; omega) (by omega) (by simp; omega) ?_; intro v9 w9 hown9 hgrow9 hat9 hat9b; obtain ⟨A9, c9, rfl⟩ := ownsRow_form hown9; have hbX : Below (w.heap.size + 2) wr w9 := ((halH.out.mono (by omega)).grown hgrow9 (by simp; omega) (fun g e => (hO1.out.lt g e).1)); have bR9 := Lib.hid (bR.out.belowB (by omega) hbX); have bA9 := Lib.hid (bA.out.belowB (by omega) hbX); have hbXH := Lib.hid hbX; have hown9H := Lib.hid hown9; have y0 := bA9.out.cell 0 _ rfl; have yf := bA9.out.froz 0; have ly := bA9.out.lt; clear hown9 hgrow9 hat9 hat9b hbX))
      go_roundg (N - (k + 1))
      case measure => omega
      case rel =>
        have hsz := hbXH.out.size
        have hst : Below (w.heap.size + 1) wr (w9.setCell ⟨w.heap.size + 1, 0, none⟩ (.slice A9 (k + 1) c9)) := (hbXH.out.mono (show w.heap.size + 1 ≤ w.heap.size + 2 by omega)).setCell (p := ⟨w.heap.size + 1, 0, none⟩) (Nat.le_refl _) _
        exact ⟨k + 1, xs ++ [⟨X, (qd : Int), 0⟩], A9, c9, by omega, by go_num, Lib.hid (by rw [List.length_append, hxl.out]; rfl), Lib.hid (by rw [plCells_snoc]; exact ownsRow_setCell_below hown9H.out (a := ⟨w.heap.size + 1, 0, none⟩) (by simp only; omega) _), Lib.hid (hS.out.belowB (by omega) hst), Lib.hid (hkA.out.thenB hlt (hst.mono (by omega))), Lib.hid (bR9.out.setOther (a := ⟨w.heap.size + 1, 0, none⟩) (by simp only; omega) _), Lib.hid (bA9.out.setSame 0 _), by simp; omega⟩
    · obtain rfl : k = N := by omega
      have hkI : ¬ (k : Int) < (k : Int) := by omega
      have r0 := bR.out.cell 0 _ rfl
      have rf := bR.out.froz 0
      have lr := bR.out.lt
      go_wp2
      refine bodyPost_ret (v := .agg #[.slice A k c]) (by simp only [results, Try.results63]; go_simp) rfl ?_
      have hst : Below w.heap.size wr (wr.setCell ⟨w.heap.size, 0, none⟩ (.slice A k c)) := ((bl_refl wr).mono (show w.heap.size ≤ wr.heap.size by omega)).setCell (p := ⟨w.heap.size, 0, none⟩) (Nat.le_refl _) _
      exact ⟨A, c, xs, k, rfl, own_baseP (ownsRow_setCell_below hO.out (a := ⟨w.heap.size, 0, none⟩) (by simp only; omega) _) (by omega), hxl.out, hN5, hS.out.belowB (by omega) hst, hkA.out.thenB hlt hst⟩
theorem own_setO {w : World} {base : Nat} {e : TypeId} {size : Nat} {v : Value} {n : Nat} {xs : List Value} (h : w.ownsRow base e size v n xs) {a : Addr} (hne : v.ownBlock ≠ some a.block) (x : Value) : (w.setCell a x).ownsRow base e size v n xs := by
  rcases h.2 with ⟨rfl, h0⟩ | ⟨g, cap, cur, rfl, h1, h2, h3⟩
  · exact ⟨h.1, .inl ⟨rfl, h0⟩⟩
  · exact ⟨h.1, .inr ⟨g, cap, cur, rfl, h1, (Below.heap_setCell _ _ _ _ (fun e => hne (by rw [← e]; rfl))).trans h2, h3⟩⟩
theorem bent_close0 {p K K2 N c5 : Nat} {A5 : Option Addr} {w w9 : World} {xs : List Pl} (hlt : p < w.heap.size) (hO : w9.ownsRow (w.heap.size + 1) 38 3 (.slice A5 N c5) N (plCells xs)) (hl : xs.length = N) (hN : N ≤ 501) (hS : SrcE w9 p K) (hK : K ≤ K2) (hk : Kp p w w9) (h9 : w.heap.size < w9.heap.size) :
    DrawAny p K2 501 w (.returned (.agg #[.slice A5 N c5])) (w9.setCell ⟨w.heap.size, 0, none⟩ (.slice A5 N c5)) := by
  have hst : Below w.heap.size w9 (w9.setCell ⟨w.heap.size, 0, none⟩ (.slice A5 N c5)) := ((bl_refl w9).mono (show w.heap.size ≤ w9.heap.size by omega)).setCell (p := ⟨w.heap.size, 0, none⟩) (Nat.le_refl _) _
  exact ⟨A5, c5, xs, N, rfl, own_baseP (ownsRow_setCell_below hO (a := ⟨w.heap.size, 0, none⟩) (Nat.lt_succ_self _) _) (Nat.le_succ _), hl, hN, (hS.belowB hlt hst).more hK, hk.thenB hlt hst⟩
theorem bent_close {p K K2 bb N c5 : Nat} {A5 : Option Addr} {w w9 : World} {xs : List Pl} (hlt : p < w.heap.size) (hbb : w.heap.size < bb) (hO : w9.ownsRow (w.heap.size + 1) 38 3 (.slice A5 N c5) N (plCells xs)) (hne : (Value.slice A5 N c5).ownBlock ≠ some bb) (hl : xs.length = N) (hN : N ≤ 501) (hS : SrcE w9 p K) (hK : K ≤ K2) (hk : Kp p w w9) (h9 : w.heap.size < w9.heap.size) :
    DrawAny p K2 501 w (.returned (.agg #[.slice A5 N c5])) ((w9.setCell ⟨bb, 0, none⟩ (.slice A5 N c5)).setCell ⟨w.heap.size, 0, none⟩ (.slice A5 N c5)) := by
  have hst : Below w.heap.size w9 (w9.setCell ⟨bb, 0, none⟩ (.slice A5 N c5)) := ((bl_refl w9).mono (show w.heap.size ≤ w9.heap.size by omega)).setCell (p := ⟨bb, 0, none⟩) (show w.heap.size ≤ bb by omega) _
  exact bent_close0 hlt (own_setO hO (a := ⟨bb, 0, none⟩) hne _) hl hN (hS.belowB hlt hst) hK (hk.thenB hlt hst) (by simpa using h9)
set_option maxRecDepth 100000 in
set_option maxHeartbeats 4000000 in
theorem l03Bent_any {p K : Nat} {w : World} (h : SrcE w p K) (hK : K ≤ 50000) :
    Calls Try.prog 26 #[.pointer (some ⟨p, 0, none⟩)] w (DrawAny p (K + 70) 501 w) := by
  obtain ⟨iP, hP, hP0, hP1, hP2⟩ := info_parts infoPl
  have hlt := h.lt
  have hH := Lib.hid h
  clear h
  have hneR : w.heap.size ≠ p := by omega
  go_enter Try.func26, Try.ntmps26
  go_wp2_with fail
  obtain ⟨a0, ha0⟩ : ∃ W, W = w.alloc (Obj.cells #[.slice none 0 0] 26) := ⟨_, rfl⟩
  rw [← ha0]
  have s0 : a0.heap.size = w.heap.size + 1 := by rw [ha0, World.size_alloc]
  have b0 : Below w.heap.size w a0 := by rw [ha0]; exact bl_al (bl_refl _) _
  have bR0 : Hid (Bx a0 w.heap.size [.slice none 0 0]) := Lib.hid (by rw [ha0]; exact Bx.made w [.slice none 0 0] 26)
  have hS0 := Lib.hid (hH.out.below b0)
  have hkA0 := Lib.hid ((Kp.refl p w).thenB hlt b0)
  clear ha0 b0
  refine (l03Draw_any (m := 4) hS0.out (by omega) (by omega) (by omega)).mono ?_
  rintro e w1 ⟨v, xs, rfl, hO1, hD, hS1, hk1⟩
  have hn11 := hD.len
  rw [s0] at hO1
  obtain ⟨n, hxn⟩ : ∃ n, xs.length = n := ⟨_, rfl⟩
  rw [hxn] at hO1 hn11
  obtain ⟨A, c, rfl⟩ := ownsRow_form hO1
  have hxl := Lib.hid hxn
  have hsz1 := hk1.below.size
  obtain ⟨bb, hbb⟩ : ∃ bb, w1.heap.size = bb := ⟨_, rfl⟩
  have hlb := Lib.hid (fun g (e : (Value.slice A n c).ownBlock = some g) => hbb ▸ (hO1.lt g e).2)
  have hlw : w.heap.size < bb := by omega
  have hneA : bb ≠ p := by omega
  have hal : Below w1.heap.size w1 (w1.alloc (Obj.cells #[.slice A n c] 26)) := bl_al (bl_refl _) _
  have bA1 : Hid (Bx (w1.alloc (Obj.cells #[.slice A n c] 26)) bb [.slice A n c]) := Lib.hid (by rw [← hbb]; exact Bx.made w1 [.slice A n c] 26)
  have bR1 := Lib.hid ((bR0.out.kp hneR hk1).below hal)
  have hO2 := Lib.hid (ownsRow_below hO1 hal)
  have hS2 := Lib.hid (hS1.below hal)
  have hkA1 := Lib.hid ((hkA0.out.trans hk1).thenB hlt (hal.mono (by omega)))
  have hsz2 : bb < (w1.alloc (Obj.cells #[.slice A n c] 26)).heap.size := by simp; omega
  clear hO1 hD hS1 hk1 hal bR0 hS0 hkA0 hxn s0 hsz1
  go_wp2_with fail
  try simp only [hbb]
  refine (pickE_any 24 hS2.out (by omega) rfl (by omega) (by omega)).mono ?_
  rintro e w2 ⟨v, rfl, hv, hS3, hk3⟩
  have bR := Lib.hid (bR1.out.kp hneR hk3)
  have bA := Lib.hid (bA1.out.kp hneA hk3)
  have hO := Lib.hid (Own_kp hO2.out (by omega) hk3)
  have hkA := Lib.hid (hkA1.out.trans hk3)
  have hS := Lib.hid hS3
  have hszb : bb < w2.heap.size := Nat.lt_of_lt_of_le hsz2 hk3.below.size
  clear hk3 hS3 bR1 bA1 hO2 hkA1 hS2 hsz2 hbb
  have y4 := bA.out.cell 0 _ rfl
  have f4 := bA.out.froz 0
  have l4 := bA.out.lt
  have r4 := bR.out.cell 0 _ rfl
  have rf4 := bR.out.froz 0
  have rl4 := bR.out.lt
  by_cases v0 : v = 0
  · subst v0
    have hal4 : Below w2.heap.size w2 (w2.alloc (Obj.cells #[.int .i64 (-60), .int .i64 (-60), .int .i64 0] 38)) := bl_al (bl_refl _) _
    have hO1 := Lib.hid (ownsRow_below hO.out hal4)
    have bA1 := Lib.hid (bA.out.below hal4)
    have bR1 := Lib.hid (bR.out.below hal4)
    have hS1 := Lib.hid (hS.out.below hal4)
    have hk1 := Lib.hid (hkA.out.thenB hlt (hal4.mono (show w.heap.size ≤ w2.heap.size by omega)))
    have hs4 := hal4.size
    clear hal4
    go_wp2_with (at_builtin; go_loud (refine wpList_append_own_at _ rfl _ _ 24 rfl (w.heap.size + 1) 38 iP (.agg #[.int .i64 0, .int .i64 0, .int .i64 0]) 3 24 Try.underlying24 hP hP0 hP1 hP2 rfl (by decide) (.slice A n c) n (plCells xs) rfl hO1.out ⟨w2.heap.size, 0, none⟩ 1 1 [.int .i64 (-60), .int .i64 (-60), .int .i64 0] rfl rfl (cell_three_newP _ _ _ _ _) (fun x hx => by simp at hx; rcases hx with rfl | rfl | rfl <;> rfl) (by unfold maxLen; omega) (by omega) (by simp; omega) ?_; intro v5 w5 hown5 hgrow5 hat5a hat5b; obtain ⟨A5, c5, rfl⟩ := ownsRow_form hown5; have hat5 : (Value.slice A5 (n + 1) c5).ownBlock = (Value.slice A n c).ownBlock ∨ (Value.slice A5 (n + 1) c5).ownBlock = some (w2.alloc (Obj.cells #[.int .i64 (-60), .int .i64 (-60), .int .i64 0] 38)).heap.size := (by first | exact hat5a | exact hat5b); have hneB : ∀ g, (Value.slice A n c).ownBlock = some g → g < bb := (fun g e => hlb.out g e); have hne5 := Lib.hid (show (Value.slice A5 (n + 1) c5).ownBlock ≠ some bb from fun e => (by
      rcases hat5 with h2 | h2
      · have := hneB bb (h2.symm.trans e); omega
      · rw [h2] at e; injection e with e; omega)); have hbX : Below (w.heap.size + 1) (w2.alloc (Obj.cells #[.int .i64 (-60), .int .i64 (-60), .int .i64 0] 38)) w5 := ((bl_refl _).mono (show w.heap.size + 1 ≤ (w2.alloc (Obj.cells #[.int .i64 (-60), .int .i64 (-60), .int .i64 0] 38)).heap.size by omega)).grown hgrow5 (by omega) (fun g e => (hO1.out.lt g e).1); have bR5 := Lib.hid (bR1.out.belowB (show w.heap.size < w.heap.size + 1 by omega) hbX); have bA5 := Lib.hid (bA1.out.grown hgrow5 (fun e => (by have := hneB _ e; omega))); have hS5 := Lib.hid (hS1.out.belowB (show p < w.heap.size + 1 by omega) hbX); have hkA5 := Lib.hid (hk1.out.thenB hlt (hbX.mono (show w.heap.size ≤ w.heap.size + 1 by omega))); have hown5H := Lib.hid (show w5.ownsRow (w.heap.size + 1) 38 3 (.slice A5 (n + 1) c5) (n + 1) (plCells (xs ++ [⟨-60, -60, 0⟩])) by rw [plCells_snoc]; exact hown5); have hl5 := Lib.hid (show (xs ++ [(⟨-60, -60, 0⟩ : Pl)]).length = n + 1 by rw [List.length_append, hxl.out]; rfl); have y5 := bA5.out.cell 0 _ rfl; have f5 := bA5.out.froz 0; have l5 := bA5.out.lt; have r5 := bR5.out.cell 0 _ rfl; have rf5 := bR5.out.froz 0; have rl5 := bR5.out.lt; clear hown5 hgrow5 hat5 hat5a hat5b hbX hneB))
    refine bodyPost_ret (v := .agg #[.slice A5 (n + 1) c5]) (by simp only [results, Try.results26]; go_simp) rfl ?_
    exact bent_close hlt hlw hown5H.out hne5.out hl5.out (by omega) hS5.out (by omega) hkA5.out rl5
  have n0 : ¬ (v : Int) = 0 := by omega
  by_cases v1 : v = 1
  · subst v1
    go_wp2_with fail
    have lpS := hS.out.lt
    have jA : Below w2.heap.size w2 (w2.alloc (Obj.cells #[.int .i64 (-1), .int .i64 0, .int .i64 159, .int .i64 160, .int .i64 (-9223372036854775808)] 2)).drew := bl_dr (bl_al (bl_refl _) _)
    have bL := (Bx.made w2 [.int .i64 (-1), .int .i64 0, .int .i64 159, .int .i64 160, .int .i64 (-9223372036854775808)] 2).below (bl_dr (bl_refl _))
    refine wp_region_ordK (p := p) [(0, .q), (1, .q), (2, .q), (3, .q), (4, .g), (5, .g), (6, .q), (7, .g), (8, .b), (9, .q), (10, .b)] (by kernel_rfl) (by kernel_rfl) ?_
    simp only [pick, List.filterMap_cons, List.filterMap_nil, List.getElem?_toArray, List.getElem?_cons_zero, List.getElem?_cons_succ, Option.map_some]
    repeat (first | ((with_reducible refine wpK_p (fun K hK => ?_)); go_simp; refine hK _ ?_; clear hK K) | ((with_reducible refine wpK_q (fun K hK => ?_)); go_simp; (first | refine hK _ ?_ | (go_bits; refine hK _ ?_) | (go_bits; go_simp; refine hK _ ?_)); clear hK K))
    with_reducible refine wpK_g (fun K hK => ?_)
    go_simp
    refine ⟨(Kp.refl _ _).al (by simp; omega) _, hK _ _ ?_⟩
    clear hK K
    repeat (first | ((with_reducible refine wpK_p (fun K hK => ?_)); go_simp; refine hK _ ?_; clear hK K) | ((with_reducible refine wpK_q (fun K hK => ?_)); go_simp; (first | refine hK _ ?_ | (go_bits; refine hK _ ?_) | (go_bits; go_simp; refine hK _ ?_)); clear hK K))
    with_reducible refine wpK_g (fun K hK => ?_)
    go_simp
    go_at_call 62
    refine (amongE_any (q := w2.heap.size) (N := 5) (L := [-1, 0, 159, 160, -9223372036854775808]) (hS.out.below jA) (by omega) rfl (by omega) (by omega) (by simp) (by omega) (fun i v hi => bL.cell i _ (by rw [show ([.int .i64 (-1), .int .i64 0, .int .i64 159, .int .i64 160, .int .i64 (-9223372036854775808)] : List Value) = ([-1, 0, 159, 160, -9223372036854775808] : List Int).map (Value.int .i64) from rfl, List.getElem?_map, hi]; rfl))).mono ?_
    rintro e w4 ⟨t, rfl, hS4, hk4⟩
    refine ⟨_, rfl, hk4, hK _ _ ?_⟩
    clear hK K bL
    have hk4' := ((Kp.refl p w2).then lpS jA).trans hk4
    have bR4 := Lib.hid (bR.out.kp hneR hk4')
    have bA4 := Lib.hid (bA.out.kp hneA hk4')
    have hO4 := Lib.hid (Own_kp hO.out (by omega) hk4')
    have hkA4 := Lib.hid (hkA.out.trans hk4')
    have hS4 := Lib.hid hS4
    have lw4 : bb < w4.heap.size := Nat.lt_of_lt_of_le hszb hk4'.below.size
    have lp4 := hS4.out.lt
    clear hk4 hk4' jA bR bA hO hkA hS
    repeat (first | ((with_reducible refine wpK_p (fun K hK => ?_)); go_simp; refine hK _ ?_; clear hK K) | ((with_reducible refine wpK_q (fun K hK => ?_)); go_simp; (first | refine hK _ ?_ | (go_bits; refine hK _ ?_) | (go_bits; go_simp; refine hK _ ?_)); clear hK K))
    with_reducible refine wpK_g (fun K hK => ?_)
    go_simp
    refine ⟨(Kp.refl _ _).al (by omega) _, hK _ _ ?_⟩
    clear hK K
    have hal4 : Below w4.heap.size w4 (w4.alloc (Obj.cells #[.int .i64 60, .int .i64 60, .int .i64 t] 38)) := bl_al (bl_refl _) _
    refine wpK_append_at rfl _ _ 24 rfl (w.heap.size + 1) 38 iP (.agg #[.int .i64 0, .int .i64 0, .int .i64 0]) 3 24 Try.underlying24 hP hP0 hP1 hP2 rfl (by decide) (.slice A n c) n (plCells xs) (by go_simp) (ownsRow_below hO4.out hal4) ⟨w4.heap.size, 0, none⟩ 1 1 [.int .i64 60, .int .i64 60, .int .i64 t] (by go_simp) rfl (cell_three_newP _ _ _ _ _) (fun x hx => by simp at hx; rcases hx with rfl | rfl | rfl <;> rfl) (by unfold maxLen; omega) (by omega) (by simp; omega) ?_
    intro v5 w5 hown5 hgrow5 hat5
    obtain ⟨A5, c5, rfl⟩ := ownsRow_form hown5
    have hneB : ∀ g, (Value.slice A n c).ownBlock = some g → g < bb := fun g e => hlb.out g e
    have hsz4 := hal4.size
    have hne5 := Lib.hid (show (Value.slice A5 (n + 1) c5).ownBlock ≠ some bb from fun e => by
      rcases hat5 with h2 | h2
      · have := hneB bb (h2.symm.trans e); omega
      · rw [h2] at e; injection e with e; omega)
    have hbX : Below (w.heap.size + 1) w4 w5 := (hal4.mono (show w.heap.size + 1 ≤ w4.heap.size by omega)).grown hgrow5 (by simp; omega) (fun g e => (hO4.out.lt g e).1)
    have bR5 := Lib.hid (bR4.out.belowB (show w.heap.size < w.heap.size + 1 by omega) hbX)
    have bA5 := Lib.hid ((bA4.out.below hal4).grown hgrow5 (fun e => by have := hneB _ e; omega))
    have hS5 := Lib.hid (hS4.out.belowB (show p < w.heap.size + 1 by omega) hbX)
    have hkA5 := Lib.hid (hkA4.out.thenB hlt (hbX.mono (show w.heap.size ≤ w.heap.size + 1 by omega)))
    have hown5H := Lib.hid (show w5.ownsRow (w.heap.size + 1) 38 3 (.slice A5 (n + 1) c5) (n + 1) (plCells (xs ++ [⟨60, 60, t⟩])) by rw [plCells_snoc]; exact hown5)
    have hl5 := Lib.hid (show (xs ++ [(⟨60, 60, t⟩ : Pl)]).length = n + 1 by rw [List.length_append, hxl.out]; rfl)
    have y5 := bA5.out.cell 0 _ rfl
    have f5 := bA5.out.froz 0
    have l5 := bA5.out.lt
    have r5 := bR5.out.cell 0 _ rfl
    have rf5 := bR5.out.froz 0
    have rl5 := bR5.out.lt
    clear hown5 hgrow5 hat5 hal4 hbX bR4 bA4 hO4 hkA4 hS4 hneB hsz4
    repeat (first | ((with_reducible refine wpK_p (fun K hK => ?_)); go_simp; refine hK _ ?_; clear hK K) | ((with_reducible refine wpK_q (fun K hK => ?_)); go_simp; (first | refine hK _ ?_ | (go_bits; refine hK _ ?_) | (go_bits; go_simp; refine hK _ ?_)); clear hK K))
    with_reducible refine wpK_b (fun K hK => ?_)
    go_simp
    refine hK _ _ ?_
    clear hK K
    repeat (first | ((with_reducible refine wpK_p (fun K hK => ?_)); go_simp; refine hK _ ?_; clear hK K) | ((with_reducible refine wpK_q (fun K hK => ?_)); go_simp; (first | refine hK _ ?_ | (go_bits; refine hK _ ?_) | (go_bits; go_simp; refine hK _ ?_)); clear hK K))
    with_reducible refine wpK_nil ?_
    go_wp2
    refine bodyPost_ret (v := .agg #[.slice A5 (n + 1) c5]) (by simp only [results, Try.results26]; go_simp) rfl ?_
    exact bent_close hlt hlw hown5H.out hne5.out hl5.out (by omega) hS5.out (by omega) hkA5.out rl5
  have n1 : ¬ (v : Int) = 1 := by omega
  by_cases v2 : v = 2
  · subst v2
    go_wp2_with fail
    have lpS := hS.out.lt
    have jA : Below w2.heap.size w2 (w2.alloc (Obj.cells #[.int .i64 60, .int .i64 61, .int .i64 9223372036854775807] 2)).drew := bl_dr (bl_al (bl_refl _) _)
    have bL := (Bx.made w2 [.int .i64 60, .int .i64 61, .int .i64 9223372036854775807] 2).below (bl_dr (bl_refl _))
    refine wp_region_ordK (p := p) [(0, .q), (1, .q), (2, .q), (3, .g), (4, .g), (5, .q), (6, .q), (7, .g), (8, .b), (9, .q), (10, .b)] (by kernel_rfl) (by kernel_rfl) ?_
    simp only [pick, List.filterMap_cons, List.filterMap_nil, List.getElem?_toArray, List.getElem?_cons_zero, List.getElem?_cons_succ, Option.map_some]
    repeat (first | ((with_reducible refine wpK_p (fun K hK => ?_)); go_simp; refine hK _ ?_; clear hK K) | ((with_reducible refine wpK_q (fun K hK => ?_)); go_simp; (first | refine hK _ ?_ | (go_bits; refine hK _ ?_) | (go_bits; go_simp; refine hK _ ?_)); clear hK K))
    with_reducible refine wpK_g (fun K hK => ?_)
    go_simp
    refine ⟨(Kp.refl _ _).al (by simp; omega) _, hK _ _ ?_⟩
    clear hK K
    repeat (first | ((with_reducible refine wpK_p (fun K hK => ?_)); go_simp; refine hK _ ?_; clear hK K) | ((with_reducible refine wpK_q (fun K hK => ?_)); go_simp; (first | refine hK _ ?_ | (go_bits; refine hK _ ?_) | (go_bits; go_simp; refine hK _ ?_)); clear hK K))
    with_reducible refine wpK_g (fun K hK => ?_)
    go_simp
    go_at_call 62
    refine (amongE_any (q := w2.heap.size) (N := 3) (L := [60, 61, 9223372036854775807]) (hS.out.below jA) (by omega) rfl (by omega) (by omega) (by simp) (by omega) (fun i v hi => bL.cell i _ (by rw [show ([.int .i64 60, .int .i64 61, .int .i64 9223372036854775807] : List Value) = ([60, 61, 9223372036854775807] : List Int).map (Value.int .i64) from rfl, List.getElem?_map, hi]; rfl))).mono ?_
    rintro e w4 ⟨t, rfl, hS4, hk4⟩
    refine ⟨_, rfl, hk4, hK _ _ ?_⟩
    clear hK K bL
    have hk4' := ((Kp.refl p w2).then lpS jA).trans hk4
    have bR4 := Lib.hid (bR.out.kp hneR hk4')
    have bA4 := Lib.hid (bA.out.kp hneA hk4')
    have hO4 := Lib.hid (Own_kp hO.out (by omega) hk4')
    have hkA4 := Lib.hid (hkA.out.trans hk4')
    have hS4 := Lib.hid hS4
    have lw4 : bb < w4.heap.size := Nat.lt_of_lt_of_le hszb hk4'.below.size
    have lp4 := hS4.out.lt
    clear hk4 hk4' jA bR bA hO hkA hS
    repeat (first | ((with_reducible refine wpK_p (fun K hK => ?_)); go_simp; refine hK _ ?_; clear hK K) | ((with_reducible refine wpK_q (fun K hK => ?_)); go_simp; (first | refine hK _ ?_ | (go_bits; refine hK _ ?_) | (go_bits; go_simp; refine hK _ ?_)); clear hK K))
    with_reducible refine wpK_g (fun K hK => ?_)
    go_simp
    refine ⟨(Kp.refl _ _).al (by omega) _, hK _ _ ?_⟩
    clear hK K
    have hal4 : Below w4.heap.size w4 (w4.alloc (Obj.cells #[.int .i64 t, .int .i64 60, .int .i64 0] 38)) := bl_al (bl_refl _) _
    refine wpK_append_at rfl _ _ 24 rfl (w.heap.size + 1) 38 iP (.agg #[.int .i64 0, .int .i64 0, .int .i64 0]) 3 24 Try.underlying24 hP hP0 hP1 hP2 rfl (by decide) (.slice A n c) n (plCells xs) (by go_simp) (ownsRow_below hO4.out hal4) ⟨w4.heap.size, 0, none⟩ 1 1 [.int .i64 t, .int .i64 60, .int .i64 0] (by go_simp) rfl (cell_three_newP _ _ _ _ _) (fun x hx => by simp at hx; rcases hx with rfl | rfl | rfl <;> rfl) (by unfold maxLen; omega) (by omega) (by simp; omega) ?_
    intro v5 w5 hown5 hgrow5 hat5
    obtain ⟨A5, c5, rfl⟩ := ownsRow_form hown5
    have hneB : ∀ g, (Value.slice A n c).ownBlock = some g → g < bb := fun g e => hlb.out g e
    have hsz4 := hal4.size
    have hne5 := Lib.hid (show (Value.slice A5 (n + 1) c5).ownBlock ≠ some bb from fun e => by
      rcases hat5 with h2 | h2
      · have := hneB bb (h2.symm.trans e); omega
      · rw [h2] at e; injection e with e; omega)
    have hbX : Below (w.heap.size + 1) w4 w5 := (hal4.mono (show w.heap.size + 1 ≤ w4.heap.size by omega)).grown hgrow5 (by simp; omega) (fun g e => (hO4.out.lt g e).1)
    have bR5 := Lib.hid (bR4.out.belowB (show w.heap.size < w.heap.size + 1 by omega) hbX)
    have bA5 := Lib.hid ((bA4.out.below hal4).grown hgrow5 (fun e => by have := hneB _ e; omega))
    have hS5 := Lib.hid (hS4.out.belowB (show p < w.heap.size + 1 by omega) hbX)
    have hkA5 := Lib.hid (hkA4.out.thenB hlt (hbX.mono (show w.heap.size ≤ w.heap.size + 1 by omega)))
    have hown5H := Lib.hid (show w5.ownsRow (w.heap.size + 1) 38 3 (.slice A5 (n + 1) c5) (n + 1) (plCells (xs ++ [⟨t, 60, 0⟩])) by rw [plCells_snoc]; exact hown5)
    have hl5 := Lib.hid (show (xs ++ [(⟨t, 60, 0⟩ : Pl)]).length = n + 1 by rw [List.length_append, hxl.out]; rfl)
    have y5 := bA5.out.cell 0 _ rfl
    have f5 := bA5.out.froz 0
    have l5 := bA5.out.lt
    have r5 := bR5.out.cell 0 _ rfl
    have rf5 := bR5.out.froz 0
    have rl5 := bR5.out.lt
    clear hown5 hgrow5 hat5 hal4 hbX bR4 bA4 hO4 hkA4 hS4 hneB hsz4
    repeat (first | ((with_reducible refine wpK_p (fun K hK => ?_)); go_simp; refine hK _ ?_; clear hK K) | ((with_reducible refine wpK_q (fun K hK => ?_)); go_simp; (first | refine hK _ ?_ | (go_bits; refine hK _ ?_) | (go_bits; go_simp; refine hK _ ?_)); clear hK K))
    with_reducible refine wpK_b (fun K hK => ?_)
    go_simp
    refine hK _ _ ?_
    clear hK K
    repeat (first | ((with_reducible refine wpK_p (fun K hK => ?_)); go_simp; refine hK _ ?_; clear hK K) | ((with_reducible refine wpK_q (fun K hK => ?_)); go_simp; (first | refine hK _ ?_ | (go_bits; refine hK _ ?_) | (go_bits; go_simp; refine hK _ ?_)); clear hK K))
    with_reducible refine wpK_nil ?_
    go_wp2
    refine bodyPost_ret (v := .agg #[.slice A5 (n + 1) c5]) (by simp only [results, Try.results26]; go_simp) rfl ?_
    exact bent_close hlt hlw hown5H.out hne5.out hl5.out (by omega) hS5.out (by omega) hkA5.out rl5
  have n2 : ¬ (v : Int) = 2 := by omega
  by_cases v3 : v = 3
  · subst v3
    go_wp2_with fail
    refine (l03Full_any hS.out (by omega)).mono ?_
    rintro e w4 ⟨A5, c5, ys, N, rfl, hO5, hl5, hN5, hS5, hk5⟩
    have bR5 := Lib.hid (bR.out.kp hneR hk5)
    have hown5H := Lib.hid (own_baseP hO5 (show w.heap.size + 1 ≤ w2.heap.size by omega))
    have hkA5 := Lib.hid (hkA.out.trans hk5)
    have hS5H := Lib.hid hS5
    have r5 := bR5.out.cell 0 _ rfl
    have rf5 := bR5.out.froz 0
    have rl5 := bR5.out.lt
    clear hO5 hS5 hk5 r4 rf4 rl4 y4 f4 l4 bR bA hO hkA hS
    go_wp2
    refine bodyPost_ret (v := .agg #[.slice A5 N c5]) (by simp only [results, Try.results26]; go_simp) rfl ?_
    exact bent_close0 hlt hown5H.out hl5 hN5 hS5H.out (by omega) hkA5.out rl5
  have n3 : ¬ (v : Int) = 3 := by omega
  go_wp2
  refine bodyPost_ret (v := .agg #[.slice A n c]) (by simp only [results, Try.results26]; go_simp) rfl ?_
  exact bent_close0 hlt hO.out hxl.out (by omega) hS.out (by omega) hkA.out rl4
end Go.Proofs.Ytpnahobgmemdjaa
/- Walk: the reference's join of any two rows of placed tiles: some row, some sign. -/




namespace Go.Proofs.Ytpnahobgmemdjaa
open Go.RowKit Go.Shelf
attribute [local go_sem] BelowBy.cell BelowBy.cell_drew stillUpon givesUpon BelowBy.cell_drew2 BelowBy.cell_drew3

def JoinW (w : World) (M : Nat) (e : Ending) (w' : World) : Prop :=
  ∃ B c' Z N ok, e = .returned (.tuple #[.agg #[.slice B N c'], .bool ok]) ∧ w'.ownsRow w.heap.size 38 3 (.slice B N c') N (plCells Z) ∧ Z.length = N ∧ N ≤ M ∧ Below w.heap.size w w'
set_option maxRecDepth 100000 in
set_option maxHeartbeats 8000000 in
theorem l03JoinW_any {oa ob : Nat} (pa pb : Nat) (xs ms : List Pl) (w : World) (ha : AsmAt w pa oa xs) (hb : AsmAt w pb ob ms) (hxl : xs.length ≤ 1000) (hml : ms.length ≤ 1000) :
    Calls Try.prog 29 #[.pointer (some ⟨pa, oa, none⟩), .pointer (some ⟨pb, ob, none⟩)] w (JoinW w 2000) := by
  obtain ⟨i2, hi2, hz02, hz12, hz22⟩ := info_parts infoPl
  obtain ⟨hlta, ⟨A, n, ca, ha1, ha2⟩⟩ := ha
  obtain ⟨hltb, ⟨C, m, cb, hb1, hb2⟩⟩ := hb
  have hln := ha2.len
  have hlm := hb2.len
  have hn5 : n ≤ 1000 := by omega
  have hm5 : m ≤ 1000 := by omega
  have haH := Lib.hid ha2
  have hbH := Lib.hid hb2
  have ha1H := Lib.hid ha1
  have hb1H := Lib.hid hb1
  clear ha2 hb2 ha1 hb1 hxl hml
  go_enter Try.func29, Try.ntmps29
  go_wp2
  go_loopg [7, 8] (n + m) (fun r x y wr => ∃ (i k N : Nat) (L : List Pl) (A3 : Option Addr) (c3 : Nat), i + k + r = n + m ∧ N ≤ i + k ∧ i ≤ n ∧ k ≤ m ∧ x = .int .i64 (i : Int) ∧ y = .int .i64 (k : Int) ∧ Hid (L.length = N) ∧ Hid (wr.ownsRow (w.heap.size + 2) 38 3 (.slice A3 N c3) N (plCells L)) ∧ Hid (Below w.heap.size w wr) ∧ w.heap.size + 1 < wr.heap.size ∧ wr.cell? ⟨w.heap.size, 0, none⟩ = some (.slice none 0 0) ∧ wr.frozen? ⟨w.heap.size, 0, none⟩ = false ∧ wr.cell? ⟨w.heap.size + 1, 0, none⟩ = some (.slice A3 N c3) ∧ wr.frozen? ⟨w.heap.size + 1, 0, none⟩ = false)
  case atStart => exact ⟨0, 0, 0, [], none, 0, by omega, by omega, by omega, by omega, rfl, rfl, Lib.hid rfl, Lib.hid (World.ownsRow_nil _ _ _ _), Lib.hid (by exact bel_), by simp, by go_simp, by go_simp, by go_simp, by go_simp⟩
  case round =>
    obtain ⟨i, k, N, L, A3, c3, hr, hNik, hin, hkm, rfl, rfl, hLl, hO, hbw, hsz, r0, rf, d0, df⟩ := hrel
    have hsw := hbw.out.size
    have ga : wr.cell? ⟨pa, oa, none⟩ = some (.slice A n ca) := (hbw.out.cell (p := ⟨pa, oa, none⟩) hlta).trans ha1H.out
    have gb : wr.cell? ⟨pb, ob, none⟩ = some (.slice C m cb) := (hbw.out.cell (p := ⟨pb, ob, none⟩) hltb).trans hb1H.out
    have la : pa < wr.heap.size := by omega
    have lb : pb < wr.heap.size := by omega
    have l0 : w.heap.size < wr.heap.size := by omega
    by_cases hin2 : i < n
    · obtain ⟨a, hxa⟩ : ∃ a, xs[i]? = some a := ⟨_, List.getElem?_eq_getElem (by omega)⟩
      obtain ⟨bA, oA, rfl, hbA, hcA⟩ := (haH.out.below RPl.stable hbw.out).ptr (by omega)
      obtain ⟨a0, a1, a2⟩ := hcA i a hxa
      have hxaH := Lib.hid hxa
      clear hcA hxa
      have e2 : ((i : Int) == (n : Int)) = false := by simp; omega
      by_cases hkm2 : k < m
      · obtain ⟨b, hmb⟩ : ∃ b, ms[k]? = some b := ⟨_, List.getElem?_eq_getElem (by omega)⟩
        obtain ⟨bB, oB, rfl, hbB, hcB⟩ := (hbH.out.below RPl.stable hbw.out).ptr (by omega)
        obtain ⟨b0, b1, b2⟩ := hcB k b hmb
        have hmbH := Lib.hid hmb
        clear hcB hmb
        have e1 : ((k : Int) == (m : Int)) = false := by simp; omega
        cases hlt : lessPt a.x a.y b.x b.y
        · have hltH := Lib.hid hlt
          clear hlt
          cases hgt : lessPt b.x b.y a.x a.y
          · have hgtH := Lib.hid hgt
            clear hgt
            go_wp2
            refine wp_region_ord [(0, .q), (1, .q), (2, .q), (3, .q), (4, .q), (5, .q), (6, .q), (7, .q), (8, .q), (9, .q), (10, .q), (11, .q), (12, .q), (13, .q), (14, .q), (15, .q), (16, .q), (17, .q), (18, .q), (19, .q), (20, .q), (21, .q), (22, .q), (23, .q), (24, .q), (25, .q), (26, .q), (27, .q), (28, .q), (29, .q), (30, .q), (31, .q), (32, .g), (33, .q), (34, .q), (35, .q)] (by kernel_rfl) (by kernel_rfl) ?_
            simp only [pick, List.filterMap_cons, List.filterMap_nil, List.getElem?_toArray, List.getElem?_cons_zero, List.getElem?_cons_succ, Option.map_some]
            repeat (first
              | ((with_reducible refine wpD_p (fun K hK => ?_)); go_simp; refine hK _ ?_; clear hK K)
              | ((with_reducible refine wpD_q (fun K hK => ?_)); go_simp; (first | refine hK _ ?_ | (go_bits; refine hK _ ?_) | (go_bits; go_simp; refine hK _ ?_)); clear hK K)
              | ((with_reducible refine wpD_g (fun K hK => ?_)); go_simp; refine hK _ _ ?_; clear hK K)
              | ((with_reducible refine wpD_g (fun K hK => ?_)); go_simp; refine ⟨Grew.of_alloc _, hK _ _ ?_⟩; clear hK K)
              | ((with_reducible refine wpD_g (fun K hK => ?_)); go_simp; refine ⟨Below.refl _ _, hK _ _ ?_⟩; clear hK K)
              | ((with_reducible refine wpD_g (fun K hK => ?_)); go_simp; go_at_call 43; refine (sLessPoint_at hltH.out).mono ?_; rintro e w2 ⟨rfl, hbw2⟩; refine ⟨_, rfl, hbw2, hK _ _ ?_⟩; clear hK K; obtain ⟨chbw2, fhbw2, shbw2, thbw2⟩ := bcell hbw2))
            with_reducible refine wpD_nil ?_
            have hBw2 : Below wr.heap.size wr w2 := by exact bel_
            clear hbw2 chbw2 fhbw2 shbw2 thbw2
            replace a0 := (hBw2.cell (p := ⟨bA, oA + i * 3, none⟩) hbA).trans a0
            replace a1 := (hBw2.cell (p := ⟨bA, oA + i * 3 + 1, none⟩) hbA).trans a1
            replace a2 := (hBw2.cell (p := ⟨bA, oA + i * 3 + 2, none⟩) hbA).trans a2
            replace hbA := Nat.lt_of_lt_of_le hbA hBw2.size
            replace b0 := (hBw2.cell (p := ⟨bB, oB + k * 3, none⟩) hbB).trans b0
            replace b1 := (hBw2.cell (p := ⟨bB, oB + k * 3 + 1, none⟩) hbB).trans b1
            replace b2 := (hBw2.cell (p := ⟨bB, oB + k * 3 + 2, none⟩) hbB).trans b2
            replace hbB := Nat.lt_of_lt_of_le hbB hBw2.size
            replace d0 := (hBw2.cell (p := ⟨w.heap.size + 1, 0, none⟩) hsz).trans d0
            replace df := (hBw2.frozen (p := ⟨w.heap.size + 1, 0, none⟩) hsz).trans df
            replace r0 := (hBw2.cell (p := ⟨w.heap.size, 0, none⟩) l0).trans r0
            replace rf := (hBw2.frozen (p := ⟨w.heap.size, 0, none⟩) l0).trans rf
            replace ga := (hBw2.cell (p := ⟨pa, oa, none⟩) la).trans ga
            replace gb := (hBw2.cell (p := ⟨pb, ob, none⟩) lb).trans gb
            replace hO := Lib.hid (ownsRow_below hO.out hBw2)
            replace hbw := Lib.hid (hbw.out.trans (Below.mono hBw2 hsw))
            replace hsz := Nat.lt_of_lt_of_le hsz hBw2.size
            replace la := Nat.lt_of_lt_of_le la hBw2.size
            replace lb := Nat.lt_of_lt_of_le lb hBw2.size
            replace l0 := Nat.lt_of_lt_of_le l0 hBw2.size
            replace hsw := Nat.le_trans hsw hBw2.size
            clear hBw2
            go_wp2
            refine wp_region_ord [(0, .q), (1, .q), (2, .q), (3, .q), (4, .q), (5, .q), (6, .q), (7, .q), (8, .q), (9, .q), (10, .q), (11, .q), (12, .q), (13, .q), (14, .q), (15, .q), (16, .q), (17, .q), (18, .q), (19, .q), (20, .q), (21, .q), (22, .q), (23, .q), (24, .g), (25, .q), (26, .q)] (by kernel_rfl) (by kernel_rfl) ?_
            simp only [pick, List.filterMap_cons, List.filterMap_nil, List.getElem?_toArray, List.getElem?_cons_zero, List.getElem?_cons_succ, Option.map_some]
            repeat (first
              | ((with_reducible refine wpD_p (fun K hK => ?_)); go_simp; refine hK _ ?_; clear hK K)
              | ((with_reducible refine wpD_q (fun K hK => ?_)); go_simp; (first | refine hK _ ?_ | (go_bits; refine hK _ ?_) | (go_bits; go_simp; refine hK _ ?_)); clear hK K)
              | ((with_reducible refine wpD_g (fun K hK => ?_)); go_simp; refine hK _ _ ?_; clear hK K)
              | ((with_reducible refine wpD_g (fun K hK => ?_)); go_simp; refine ⟨Grew.of_alloc _, hK _ _ ?_⟩; clear hK K)
              | ((with_reducible refine wpD_g (fun K hK => ?_)); go_simp; refine ⟨Below.refl _ _, hK _ _ ?_⟩; clear hK K)
              | ((with_reducible refine wpD_g (fun K hK => ?_)); go_simp; go_at_call 43; refine (sLessPoint_at hgtH.out).mono ?_; rintro e w3 ⟨rfl, hbw3⟩; refine ⟨_, rfl, hbw3, hK _ _ ?_⟩; clear hK K; obtain ⟨chbw3, fhbw3, shbw3, thbw3⟩ := bcell hbw3))
            with_reducible refine wpD_nil ?_
            have hBw3 : Below w2.heap.size w2 w3 := by exact bel_
            clear hbw3 chbw3 fhbw3 shbw3 thbw3
            replace a0 := (hBw3.cell (p := ⟨bA, oA + i * 3, none⟩) hbA).trans a0
            replace a1 := (hBw3.cell (p := ⟨bA, oA + i * 3 + 1, none⟩) hbA).trans a1
            replace a2 := (hBw3.cell (p := ⟨bA, oA + i * 3 + 2, none⟩) hbA).trans a2
            replace hbA := Nat.lt_of_lt_of_le hbA hBw3.size
            replace b0 := (hBw3.cell (p := ⟨bB, oB + k * 3, none⟩) hbB).trans b0
            replace b1 := (hBw3.cell (p := ⟨bB, oB + k * 3 + 1, none⟩) hbB).trans b1
            replace b2 := (hBw3.cell (p := ⟨bB, oB + k * 3 + 2, none⟩) hbB).trans b2
            replace hbB := Nat.lt_of_lt_of_le hbB hBw3.size
            replace d0 := (hBw3.cell (p := ⟨w.heap.size + 1, 0, none⟩) hsz).trans d0
            replace df := (hBw3.frozen (p := ⟨w.heap.size + 1, 0, none⟩) hsz).trans df
            replace r0 := (hBw3.cell (p := ⟨w.heap.size, 0, none⟩) l0).trans r0
            replace rf := (hBw3.frozen (p := ⟨w.heap.size, 0, none⟩) l0).trans rf
            replace ga := (hBw3.cell (p := ⟨pa, oa, none⟩) la).trans ga
            replace gb := (hBw3.cell (p := ⟨pb, ob, none⟩) lb).trans gb
            replace hO := Lib.hid (ownsRow_below hO.out hBw3)
            replace hbw := Lib.hid (hbw.out.trans (Below.mono hBw3 hsw))
            replace hsz := Nat.lt_of_lt_of_le hsz hBw3.size
            replace la := Nat.lt_of_lt_of_le la hBw3.size
            replace lb := Nat.lt_of_lt_of_le lb hBw3.size
            replace l0 := Nat.lt_of_lt_of_le l0 hBw3.size
            replace hsw := Nat.le_trans hsw hBw3.size
            clear hBw3
            go_wp2
            by_cases hte : a.t = b.t
            · have hteB : (a.t == b.t) = true := by simpa using hte
              have hteN : (a.t != b.t) = false := by simpa using hte
              clear hte
              refine wp_region_ord [(0, .q), (1, .q), (2, .q), (3, .q), (4, .q), (5, .q), (6, .q), (7, .q), (8, .q), (9, .q), (10, .q), (11, .q), (12, .q), (13, .q), (14, .q), (15, .q), (16, .q)] (by kernel_rfl) (by kernel_rfl) ?_
              simp only [pick, List.filterMap_cons, List.filterMap_nil, List.getElem?_toArray, List.getElem?_cons_zero, List.getElem?_cons_succ, Option.map_some]
              repeat (first
                | ((with_reducible refine wpD_p (fun K hK => ?_)); go_simp; refine hK _ ?_; clear hK K)
                | ((with_reducible refine wpD_q (fun K hK => ?_)); go_simp; (first | refine hK _ ?_ | (go_bits; refine hK _ ?_) | (go_bits; go_simp; refine hK _ ?_)); clear hK K)
                | ((with_reducible refine wpD_g (fun K hK => ?_)); go_simp; refine hK _ _ ?_; clear hK K)
                | ((with_reducible refine wpD_g (fun K hK => ?_)); go_simp; refine ⟨Grew.of_alloc _, hK _ _ ?_⟩; clear hK K)
                | ((with_reducible refine wpD_g (fun K hK => ?_)); go_simp; refine ⟨Below.refl _ _, hK _ _ ?_⟩; clear hK K))
              with_reducible refine wpD_nil ?_
              have hBw4 : Below w3.heap.size w3 w3.drew := bl_dr (bl_refl _)
              generalize w3.drew = w4 at hBw4 ⊢
              replace a0 := (hBw4.cell (p := ⟨bA, oA + i * 3, none⟩) hbA).trans a0
              replace a1 := (hBw4.cell (p := ⟨bA, oA + i * 3 + 1, none⟩) hbA).trans a1
              replace a2 := (hBw4.cell (p := ⟨bA, oA + i * 3 + 2, none⟩) hbA).trans a2
              replace hbA := Nat.lt_of_lt_of_le hbA hBw4.size
              replace b0 := (hBw4.cell (p := ⟨bB, oB + k * 3, none⟩) hbB).trans b0
              replace b1 := (hBw4.cell (p := ⟨bB, oB + k * 3 + 1, none⟩) hbB).trans b1
              replace b2 := (hBw4.cell (p := ⟨bB, oB + k * 3 + 2, none⟩) hbB).trans b2
              replace hbB := Nat.lt_of_lt_of_le hbB hBw4.size
              replace d0 := (hBw4.cell (p := ⟨w.heap.size + 1, 0, none⟩) hsz).trans d0
              replace df := (hBw4.frozen (p := ⟨w.heap.size + 1, 0, none⟩) hsz).trans df
              replace r0 := (hBw4.cell (p := ⟨w.heap.size, 0, none⟩) l0).trans r0
              replace rf := (hBw4.frozen (p := ⟨w.heap.size, 0, none⟩) l0).trans rf
              replace ga := (hBw4.cell (p := ⟨pa, oa, none⟩) la).trans ga
              replace gb := (hBw4.cell (p := ⟨pb, ob, none⟩) lb).trans gb
              replace hO := Lib.hid (ownsRow_below hO.out hBw4)
              replace hbw := Lib.hid (hbw.out.trans (Below.mono hBw4 hsw))
              replace hsz := Nat.lt_of_lt_of_le hsz hBw4.size
              replace la := Nat.lt_of_lt_of_le la hBw4.size
              replace lb := Nat.lt_of_lt_of_le lb hBw4.size
              replace l0 := Nat.lt_of_lt_of_le l0 hBw4.size
              replace hsw := Nat.le_trans hsw hBw4.size
              clear hBw4
              go_wp2
              refine wp_region_ord [(0, .q), (1, .q), (2, .q), (3, .q), (4, .q), (5, .q), (6, .q), (7, .q), (8, .q), (9, .g), (10, .b), (11, .q), (12, .b)] (by kernel_rfl) (by kernel_rfl) ?_
              simp only [pick, List.filterMap_cons, List.filterMap_nil, List.getElem?_toArray, List.getElem?_cons_zero, List.getElem?_cons_succ, Option.map_some]
              repeat (first
                | ((with_reducible refine wpD_p (fun K hK => ?_)); go_simp; refine hK _ ?_; clear hK K)
                | ((with_reducible refine wpD_q (fun K hK => ?_)); go_simp; (first | refine hK _ ?_ | (go_bits; refine hK _ ?_) | (go_bits; go_simp; refine hK _ ?_)); clear hK K)
                | ((with_reducible refine wpD_g (fun K hK => ?_)); go_simp; refine hK _ _ ?_; clear hK K)
                | ((with_reducible refine wpD_g (fun K hK => ?_)); go_simp; refine ⟨Grew.of_alloc _, hK _ _ ?_⟩; clear hK K))
              refine wpD_append rfl _ _ 24 rfl (w.heap.size + 2) 38 i2 (.agg #[.int .i64 0, .int .i64 0, .int .i64 0]) 3 24 Try.underlying24 hi2 hz02 hz12 hz22 rfl (by decide) (.slice A3 N c3) N (plCells L) (by go_simp) (ownsRow_below hO.out (by exact bel_)) ⟨w4.heap.size, 0, none⟩ 1 1 [.int .i64 a.x, .int .i64 a.y, .int .i64 a.t] (by go_simp) rfl ?hnews (fun x hx => by simp at hx; rcases hx with rfl | rfl | rfl <;> rfl) (by unfold maxLen; omega) (by omega) (by simp; omega) ?_
              case hnews =>
                have := cell_three_new w4 (.int .i64 a.x) (.int .i64 a.y) (.int .i64 a.t) 38
                simpa using this
              intro v5 w5 hown5 hgrow5
              obtain ⟨A5, c5, rfl⟩ := ownsRow_form hown5
              have hT : Below w4.heap.size w4 (w4.alloc (Obj.cells #[.int .i64 a.x, .int .i64 a.y, .int .i64 a.t] 38)).drew := bl_dr (bl_al (bl_refl _) _)
              have hbX : Below (w.heap.size + 2) w4 w5 := (hT.mono (by omega)).grown hgrow5 (by simp; omega) (fun g e => (hO.out.lt g e).1)
              have m0 := (hbX.cell (p := ⟨w.heap.size, 0, none⟩) (by simp)).trans r0
              have m1 := (hbX.frozen (p := ⟨w.heap.size, 0, none⟩) (by simp)).trans rf
              have m2 := (hbX.cell (p := ⟨w.heap.size + 1, 0, none⟩) (by simp)).trans d0
              have mf := (hbX.frozen (p := ⟨w.heap.size + 1, 0, none⟩) (by simp)).trans df
              have l5 : w.heap.size + 1 < w5.heap.size := by have := hbX.size; omega
              have l50 : w.heap.size < w5.heap.size := by omega
              have hown5H := Lib.hid hown5
              have hbXH := Lib.hid (hbw.out.trans (hbX.mono (by omega)))
              clear hown5 hgrow5 hbX hT r0 rf d0 df
              repeat (first | ((with_reducible refine wpD_p (fun K hK => ?_)); go_simp; refine hK _ ?_; clear hK K) | ((with_reducible refine wpD_q (fun K hK => ?_)); go_simp; (first | refine hK _ ?_ | (go_bits; refine hK _ ?_) | (go_bits; go_simp; refine hK _ ?_)); clear hK K))
              with_reducible refine wpD_b (fun K hK => ?_)
              go_simp
              refine hK _ _ ?_
              clear hK K
              with_reducible refine wpD_nil ?_
              go_wp2
              go_roundg (n + m - (i + k + 2))
              case measure => omega
              case rel =>
                refine ⟨i + 1, k + 1, N + 1, L ++ [a], A5, c5, by omega, by omega, by omega, by omega, by go_num, by go_num, Lib.hid (by rw [List.length_append, hLl.out]; rfl), Lib.hid ?_, Lib.hid (hbXH.out.setCell (p := ⟨w.heap.size + 1, 0, none⟩) (by simp) _), by simp; omega, by go_simp, by go_simp, by go_simp, by go_simp⟩
                rw [plCells_snoc]
                exact ownsRow_setCell_below hown5H.out (by simp) _
            · have hteB : (a.t != b.t) = true := by simpa using hte
              refine wp_region_ord [(0, .q), (1, .q), (2, .q), (3, .q), (4, .q), (5, .q), (6, .q), (7, .q), (8, .q), (9, .q), (10, .q), (11, .q), (12, .q), (13, .q), (14, .q), (15, .q), (16, .q)] (by kernel_rfl) (by kernel_rfl) ?_
              simp only [pick, List.filterMap_cons, List.filterMap_nil, List.getElem?_toArray, List.getElem?_cons_zero, List.getElem?_cons_succ, Option.map_some]
              repeat (first
                | ((with_reducible refine wpD_p (fun K hK => ?_)); go_simp; refine hK _ ?_; clear hK K)
                | ((with_reducible refine wpD_q (fun K hK => ?_)); go_simp; (first | refine hK _ ?_ | (go_bits; refine hK _ ?_) | (go_bits; go_simp; refine hK _ ?_)); clear hK K)
                | ((with_reducible refine wpD_g (fun K hK => ?_)); go_simp; refine hK _ _ ?_; clear hK K)
                | ((with_reducible refine wpD_g (fun K hK => ?_)); go_simp; refine ⟨Grew.of_alloc _, hK _ _ ?_⟩; clear hK K)
                | ((with_reducible refine wpD_g (fun K hK => ?_)); go_simp; refine ⟨Below.refl _ _, hK _ _ ?_⟩; clear hK K))
              with_reducible refine wpD_nil ?_
              have hBw4 : Below w3.heap.size w3 w3.drew := bl_dr (bl_refl _)
              generalize w3.drew = w4 at hBw4 ⊢
              replace a0 := (hBw4.cell (p := ⟨bA, oA + i * 3, none⟩) hbA).trans a0
              replace a1 := (hBw4.cell (p := ⟨bA, oA + i * 3 + 1, none⟩) hbA).trans a1
              replace a2 := (hBw4.cell (p := ⟨bA, oA + i * 3 + 2, none⟩) hbA).trans a2
              replace hbA := Nat.lt_of_lt_of_le hbA hBw4.size
              replace b0 := (hBw4.cell (p := ⟨bB, oB + k * 3, none⟩) hbB).trans b0
              replace b1 := (hBw4.cell (p := ⟨bB, oB + k * 3 + 1, none⟩) hbB).trans b1
              replace b2 := (hBw4.cell (p := ⟨bB, oB + k * 3 + 2, none⟩) hbB).trans b2
              replace hbB := Nat.lt_of_lt_of_le hbB hBw4.size
              replace d0 := (hBw4.cell (p := ⟨w.heap.size + 1, 0, none⟩) hsz).trans d0
              replace df := (hBw4.frozen (p := ⟨w.heap.size + 1, 0, none⟩) hsz).trans df
              replace r0 := (hBw4.cell (p := ⟨w.heap.size, 0, none⟩) l0).trans r0
              replace rf := (hBw4.frozen (p := ⟨w.heap.size, 0, none⟩) l0).trans rf
              replace ga := (hBw4.cell (p := ⟨pa, oa, none⟩) la).trans ga
              replace gb := (hBw4.cell (p := ⟨pb, ob, none⟩) lb).trans gb
              replace hO := Lib.hid (ownsRow_below hO.out hBw4)
              replace hbw := Lib.hid (hbw.out.trans (Below.mono hBw4 hsw))
              replace hsz := Nat.lt_of_lt_of_le hsz hBw4.size
              replace la := Nat.lt_of_lt_of_le la hBw4.size
              replace lb := Nat.lt_of_lt_of_le lb hBw4.size
              replace l0 := Nat.lt_of_lt_of_le l0 hBw4.size
              replace hsw := Nat.le_trans hsw hBw4.size
              clear hBw4
              go_wp2
              refine bodyPost_ret (v := .tuple #[.agg #[.slice none 0 0], .bool false]) (by simp only [results, Try.results29]; go_simp) rfl ?_
              exact ⟨none, 0, [], 0, false, rfl, World.ownsRow_nil _ _ _ _, rfl, by omega, hbw.out.setCell (p := ⟨w.heap.size, 0, none⟩) (by simp) _⟩
          · have hgtH := Lib.hid hgt
            clear hgt
            go_wp2
            refine wp_region_ord [(0, .q), (1, .q), (2, .q), (3, .q), (4, .q), (5, .q), (6, .q), (7, .q), (8, .q), (9, .q), (10, .q), (11, .q), (12, .q), (13, .q), (14, .q), (15, .q), (16, .q), (17, .q), (18, .q), (19, .q), (20, .q), (21, .q), (22, .q), (23, .q), (24, .q), (25, .q), (26, .q), (27, .q), (28, .q), (29, .q), (30, .q), (31, .q), (32, .g), (33, .q), (34, .q), (35, .q)] (by kernel_rfl) (by kernel_rfl) ?_
            simp only [pick, List.filterMap_cons, List.filterMap_nil, List.getElem?_toArray, List.getElem?_cons_zero, List.getElem?_cons_succ, Option.map_some]
            repeat (first
              | ((with_reducible refine wpD_p (fun K hK => ?_)); go_simp; refine hK _ ?_; clear hK K)
              | ((with_reducible refine wpD_q (fun K hK => ?_)); go_simp; (first | refine hK _ ?_ | (go_bits; refine hK _ ?_) | (go_bits; go_simp; refine hK _ ?_)); clear hK K)
              | ((with_reducible refine wpD_g (fun K hK => ?_)); go_simp; refine hK _ _ ?_; clear hK K)
              | ((with_reducible refine wpD_g (fun K hK => ?_)); go_simp; refine ⟨Grew.of_alloc _, hK _ _ ?_⟩; clear hK K)
              | ((with_reducible refine wpD_g (fun K hK => ?_)); go_simp; refine ⟨Below.refl _ _, hK _ _ ?_⟩; clear hK K)
              | ((with_reducible refine wpD_g (fun K hK => ?_)); go_simp; go_at_call 43; refine (sLessPoint_at hltH.out).mono ?_; rintro e w2 ⟨rfl, hbw2⟩; refine ⟨_, rfl, hbw2, hK _ _ ?_⟩; clear hK K; obtain ⟨chbw2, fhbw2, shbw2, thbw2⟩ := bcell hbw2))
            with_reducible refine wpD_nil ?_
            have hBw2 : Below wr.heap.size wr w2 := by exact bel_
            clear hbw2 chbw2 fhbw2 shbw2 thbw2
            replace a0 := (hBw2.cell (p := ⟨bA, oA + i * 3, none⟩) hbA).trans a0
            replace a1 := (hBw2.cell (p := ⟨bA, oA + i * 3 + 1, none⟩) hbA).trans a1
            replace a2 := (hBw2.cell (p := ⟨bA, oA + i * 3 + 2, none⟩) hbA).trans a2
            replace hbA := Nat.lt_of_lt_of_le hbA hBw2.size
            replace b0 := (hBw2.cell (p := ⟨bB, oB + k * 3, none⟩) hbB).trans b0
            replace b1 := (hBw2.cell (p := ⟨bB, oB + k * 3 + 1, none⟩) hbB).trans b1
            replace b2 := (hBw2.cell (p := ⟨bB, oB + k * 3 + 2, none⟩) hbB).trans b2
            replace hbB := Nat.lt_of_lt_of_le hbB hBw2.size
            replace d0 := (hBw2.cell (p := ⟨w.heap.size + 1, 0, none⟩) hsz).trans d0
            replace df := (hBw2.frozen (p := ⟨w.heap.size + 1, 0, none⟩) hsz).trans df
            replace r0 := (hBw2.cell (p := ⟨w.heap.size, 0, none⟩) l0).trans r0
            replace rf := (hBw2.frozen (p := ⟨w.heap.size, 0, none⟩) l0).trans rf
            replace ga := (hBw2.cell (p := ⟨pa, oa, none⟩) la).trans ga
            replace gb := (hBw2.cell (p := ⟨pb, ob, none⟩) lb).trans gb
            replace hO := Lib.hid (ownsRow_below hO.out hBw2)
            replace hbw := Lib.hid (hbw.out.trans (Below.mono hBw2 hsw))
            replace hsz := Nat.lt_of_lt_of_le hsz hBw2.size
            replace la := Nat.lt_of_lt_of_le la hBw2.size
            replace lb := Nat.lt_of_lt_of_le lb hBw2.size
            replace l0 := Nat.lt_of_lt_of_le l0 hBw2.size
            replace hsw := Nat.le_trans hsw hBw2.size
            clear hBw2
            go_wp2
            refine wp_region_ord [(0, .q), (1, .q), (2, .q), (3, .q), (4, .q), (5, .q), (6, .q), (7, .q), (8, .q), (9, .q), (10, .q), (11, .q), (12, .q), (13, .q), (14, .q), (15, .q), (16, .q), (17, .q), (18, .q), (19, .q), (20, .q), (21, .q), (22, .q), (23, .q), (24, .g), (25, .q), (26, .q)] (by kernel_rfl) (by kernel_rfl) ?_
            simp only [pick, List.filterMap_cons, List.filterMap_nil, List.getElem?_toArray, List.getElem?_cons_zero, List.getElem?_cons_succ, Option.map_some]
            repeat (first
              | ((with_reducible refine wpD_p (fun K hK => ?_)); go_simp; refine hK _ ?_; clear hK K)
              | ((with_reducible refine wpD_q (fun K hK => ?_)); go_simp; (first | refine hK _ ?_ | (go_bits; refine hK _ ?_) | (go_bits; go_simp; refine hK _ ?_)); clear hK K)
              | ((with_reducible refine wpD_g (fun K hK => ?_)); go_simp; refine hK _ _ ?_; clear hK K)
              | ((with_reducible refine wpD_g (fun K hK => ?_)); go_simp; refine ⟨Grew.of_alloc _, hK _ _ ?_⟩; clear hK K)
              | ((with_reducible refine wpD_g (fun K hK => ?_)); go_simp; refine ⟨Below.refl _ _, hK _ _ ?_⟩; clear hK K)
              | ((with_reducible refine wpD_g (fun K hK => ?_)); go_simp; go_at_call 43; refine (sLessPoint_at hgtH.out).mono ?_; rintro e w3 ⟨rfl, hbw3⟩; refine ⟨_, rfl, hbw3, hK _ _ ?_⟩; clear hK K; obtain ⟨chbw3, fhbw3, shbw3, thbw3⟩ := bcell hbw3))
            with_reducible refine wpD_nil ?_
            have hBw3 : Below w2.heap.size w2 w3 := by exact bel_
            clear hbw3 chbw3 fhbw3 shbw3 thbw3
            replace a0 := (hBw3.cell (p := ⟨bA, oA + i * 3, none⟩) hbA).trans a0
            replace a1 := (hBw3.cell (p := ⟨bA, oA + i * 3 + 1, none⟩) hbA).trans a1
            replace a2 := (hBw3.cell (p := ⟨bA, oA + i * 3 + 2, none⟩) hbA).trans a2
            replace hbA := Nat.lt_of_lt_of_le hbA hBw3.size
            replace b0 := (hBw3.cell (p := ⟨bB, oB + k * 3, none⟩) hbB).trans b0
            replace b1 := (hBw3.cell (p := ⟨bB, oB + k * 3 + 1, none⟩) hbB).trans b1
            replace b2 := (hBw3.cell (p := ⟨bB, oB + k * 3 + 2, none⟩) hbB).trans b2
            replace hbB := Nat.lt_of_lt_of_le hbB hBw3.size
            replace d0 := (hBw3.cell (p := ⟨w.heap.size + 1, 0, none⟩) hsz).trans d0
            replace df := (hBw3.frozen (p := ⟨w.heap.size + 1, 0, none⟩) hsz).trans df
            replace r0 := (hBw3.cell (p := ⟨w.heap.size, 0, none⟩) l0).trans r0
            replace rf := (hBw3.frozen (p := ⟨w.heap.size, 0, none⟩) l0).trans rf
            replace ga := (hBw3.cell (p := ⟨pa, oa, none⟩) la).trans ga
            replace gb := (hBw3.cell (p := ⟨pb, ob, none⟩) lb).trans gb
            replace hO := Lib.hid (ownsRow_below hO.out hBw3)
            replace hbw := Lib.hid (hbw.out.trans (Below.mono hBw3 hsw))
            replace hsz := Nat.lt_of_lt_of_le hsz hBw3.size
            replace la := Nat.lt_of_lt_of_le la hBw3.size
            replace lb := Nat.lt_of_lt_of_le lb hBw3.size
            replace l0 := Nat.lt_of_lt_of_le l0 hBw3.size
            replace hsw := Nat.le_trans hsw hBw3.size
            clear hBw3
            go_wp2
            refine wp_region_ord [(0, .q), (1, .q), (2, .q), (3, .q), (4, .q), (5, .q), (6, .q), (7, .q), (8, .q), (9, .g), (10, .b), (11, .q), (12, .b)] (by kernel_rfl) (by kernel_rfl) ?_
            simp only [pick, List.filterMap_cons, List.filterMap_nil, List.getElem?_toArray, List.getElem?_cons_zero, List.getElem?_cons_succ, Option.map_some]
            repeat (first
              | ((with_reducible refine wpD_p (fun K hK => ?_)); go_simp; refine hK _ ?_; clear hK K)
              | ((with_reducible refine wpD_q (fun K hK => ?_)); go_simp; (first | refine hK _ ?_ | (go_bits; refine hK _ ?_) | (go_bits; go_simp; refine hK _ ?_)); clear hK K)
              | ((with_reducible refine wpD_g (fun K hK => ?_)); go_simp; refine hK _ _ ?_; clear hK K)
              | ((with_reducible refine wpD_g (fun K hK => ?_)); go_simp; refine ⟨Grew.of_alloc _, hK _ _ ?_⟩; clear hK K))
            refine wpD_append rfl _ _ 24 rfl (w.heap.size + 2) 38 i2 (.agg #[.int .i64 0, .int .i64 0, .int .i64 0]) 3 24 Try.underlying24 hi2 hz02 hz12 hz22 rfl (by decide) (.slice A3 N c3) N (plCells L) (by go_simp) (ownsRow_below hO.out (by exact bel_)) ⟨w3.heap.size, 0, none⟩ 1 1 [.int .i64 b.x, .int .i64 b.y, .int .i64 b.t] (by go_simp) rfl ?hnews (fun x hx => by simp at hx; rcases hx with rfl | rfl | rfl <;> rfl) (by unfold maxLen; omega) (by omega) (by simp; omega) ?_
            case hnews =>
              have := cell_three_new w3 (.int .i64 b.x) (.int .i64 b.y) (.int .i64 b.t) 38
              simpa using this
            intro v5 w5 hown5 hgrow5
            obtain ⟨A5, c5, rfl⟩ := ownsRow_form hown5
            have hT : Below w3.heap.size w3 (w3.alloc (Obj.cells #[.int .i64 b.x, .int .i64 b.y, .int .i64 b.t] 38)).drew := bl_dr (bl_al (bl_refl _) _)
            have hbX : Below (w.heap.size + 2) w3 w5 := (hT.mono (by omega)).grown hgrow5 (by simp; omega) (fun g e => (hO.out.lt g e).1)
            have m0 := (hbX.cell (p := ⟨w.heap.size, 0, none⟩) (by simp)).trans r0
            have m1 := (hbX.frozen (p := ⟨w.heap.size, 0, none⟩) (by simp)).trans rf
            have m2 := (hbX.cell (p := ⟨w.heap.size + 1, 0, none⟩) (by simp)).trans d0
            have mf := (hbX.frozen (p := ⟨w.heap.size + 1, 0, none⟩) (by simp)).trans df
            have l5 : w.heap.size + 1 < w5.heap.size := by have := hbX.size; omega
            have l50 : w.heap.size < w5.heap.size := by omega
            have hown5H := Lib.hid hown5
            have hbXH := Lib.hid (hbw.out.trans (hbX.mono (by omega)))
            clear hown5 hgrow5 hbX hT r0 rf d0 df
            repeat (first | ((with_reducible refine wpD_p (fun K hK => ?_)); go_simp; refine hK _ ?_; clear hK K) | ((with_reducible refine wpD_q (fun K hK => ?_)); go_simp; (first | refine hK _ ?_ | (go_bits; refine hK _ ?_) | (go_bits; go_simp; refine hK _ ?_)); clear hK K))
            with_reducible refine wpD_b (fun K hK => ?_)
            go_simp
            refine hK _ _ ?_
            clear hK K
            with_reducible refine wpD_nil ?_
            go_wp2
            go_roundg (n + m - (i + k + 1))
            case measure => omega
            case rel =>
              refine ⟨i, k + 1, N + 1, L ++ [b], A5, c5, by omega, by omega, by omega, by omega, by go_num, by go_num, Lib.hid (by rw [List.length_append, hLl.out]; rfl), Lib.hid ?_, Lib.hid (hbXH.out.setCell (p := ⟨w.heap.size + 1, 0, none⟩) (by simp) _), by simp; omega, by go_simp, by go_simp, by go_simp, by go_simp⟩
              rw [plCells_snoc]
              exact ownsRow_setCell_below hown5H.out (by simp) _
        · have hltH := Lib.hid hlt
          clear hlt
          go_wp2
          refine wp_region_ord [(0, .q), (1, .q), (2, .q), (3, .q), (4, .q), (5, .q), (6, .q), (7, .q), (8, .q), (9, .q), (10, .q), (11, .q), (12, .q), (13, .q), (14, .q), (15, .q), (16, .q), (17, .q), (18, .q), (19, .q), (20, .q), (21, .q), (22, .q), (23, .q), (24, .q), (25, .q), (26, .q), (27, .q), (28, .q), (29, .q), (30, .q), (31, .q), (32, .g), (33, .q), (34, .q), (35, .q)] (by kernel_rfl) (by kernel_rfl) ?_
          simp only [pick, List.filterMap_cons, List.filterMap_nil, List.getElem?_toArray, List.getElem?_cons_zero, List.getElem?_cons_succ, Option.map_some]
          repeat (first
            | ((with_reducible refine wpD_p (fun K hK => ?_)); go_simp; refine hK _ ?_; clear hK K)
            | ((with_reducible refine wpD_q (fun K hK => ?_)); go_simp; (first | refine hK _ ?_ | (go_bits; refine hK _ ?_) | (go_bits; go_simp; refine hK _ ?_)); clear hK K)
            | ((with_reducible refine wpD_g (fun K hK => ?_)); go_simp; refine hK _ _ ?_; clear hK K)
            | ((with_reducible refine wpD_g (fun K hK => ?_)); go_simp; refine ⟨Grew.of_alloc _, hK _ _ ?_⟩; clear hK K)
            | ((with_reducible refine wpD_g (fun K hK => ?_)); go_simp; refine ⟨Below.refl _ _, hK _ _ ?_⟩; clear hK K)
            | ((with_reducible refine wpD_g (fun K hK => ?_)); go_simp; go_at_call 43; refine (sLessPoint_at hltH.out).mono ?_; rintro e w2 ⟨rfl, hbw2⟩; refine ⟨_, rfl, hbw2, hK _ _ ?_⟩; clear hK K; obtain ⟨chbw2, fhbw2, shbw2, thbw2⟩ := bcell hbw2))
          with_reducible refine wpD_nil ?_
          have hBw2 : Below wr.heap.size wr w2 := by exact bel_
          clear hbw2 chbw2 fhbw2 shbw2 thbw2
          replace a0 := (hBw2.cell (p := ⟨bA, oA + i * 3, none⟩) hbA).trans a0
          replace a1 := (hBw2.cell (p := ⟨bA, oA + i * 3 + 1, none⟩) hbA).trans a1
          replace a2 := (hBw2.cell (p := ⟨bA, oA + i * 3 + 2, none⟩) hbA).trans a2
          replace hbA := Nat.lt_of_lt_of_le hbA hBw2.size
          replace b0 := (hBw2.cell (p := ⟨bB, oB + k * 3, none⟩) hbB).trans b0
          replace b1 := (hBw2.cell (p := ⟨bB, oB + k * 3 + 1, none⟩) hbB).trans b1
          replace b2 := (hBw2.cell (p := ⟨bB, oB + k * 3 + 2, none⟩) hbB).trans b2
          replace hbB := Nat.lt_of_lt_of_le hbB hBw2.size
          replace d0 := (hBw2.cell (p := ⟨w.heap.size + 1, 0, none⟩) hsz).trans d0
          replace df := (hBw2.frozen (p := ⟨w.heap.size + 1, 0, none⟩) hsz).trans df
          replace r0 := (hBw2.cell (p := ⟨w.heap.size, 0, none⟩) l0).trans r0
          replace rf := (hBw2.frozen (p := ⟨w.heap.size, 0, none⟩) l0).trans rf
          replace ga := (hBw2.cell (p := ⟨pa, oa, none⟩) la).trans ga
          replace gb := (hBw2.cell (p := ⟨pb, ob, none⟩) lb).trans gb
          replace hO := Lib.hid (ownsRow_below hO.out hBw2)
          replace hbw := Lib.hid (hbw.out.trans (Below.mono hBw2 hsw))
          replace hsz := Nat.lt_of_lt_of_le hsz hBw2.size
          replace la := Nat.lt_of_lt_of_le la hBw2.size
          replace lb := Nat.lt_of_lt_of_le lb hBw2.size
          replace l0 := Nat.lt_of_lt_of_le l0 hBw2.size
          replace hsw := Nat.le_trans hsw hBw2.size
          clear hBw2
          go_wp2
          refine wp_region_ord [(0, .q), (1, .q), (2, .q), (3, .q), (4, .q), (5, .q), (6, .q), (7, .q), (8, .q), (9, .g), (10, .b), (11, .q), (12, .b)] (by kernel_rfl) (by kernel_rfl) ?_
          simp only [pick, List.filterMap_cons, List.filterMap_nil, List.getElem?_toArray, List.getElem?_cons_zero, List.getElem?_cons_succ, Option.map_some]
          repeat (first
            | ((with_reducible refine wpD_p (fun K hK => ?_)); go_simp; refine hK _ ?_; clear hK K)
            | ((with_reducible refine wpD_q (fun K hK => ?_)); go_simp; (first | refine hK _ ?_ | (go_bits; refine hK _ ?_) | (go_bits; go_simp; refine hK _ ?_)); clear hK K)
            | ((with_reducible refine wpD_g (fun K hK => ?_)); go_simp; refine hK _ _ ?_; clear hK K)
            | ((with_reducible refine wpD_g (fun K hK => ?_)); go_simp; refine ⟨Grew.of_alloc _, hK _ _ ?_⟩; clear hK K))
          refine wpD_append rfl _ _ 24 rfl (w.heap.size + 2) 38 i2 (.agg #[.int .i64 0, .int .i64 0, .int .i64 0]) 3 24 Try.underlying24 hi2 hz02 hz12 hz22 rfl (by decide) (.slice A3 N c3) N (plCells L) (by go_simp) (ownsRow_below hO.out (by exact bel_)) ⟨w2.heap.size, 0, none⟩ 1 1 [.int .i64 a.x, .int .i64 a.y, .int .i64 a.t] (by go_simp) rfl ?hnews (fun x hx => by simp at hx; rcases hx with rfl | rfl | rfl <;> rfl) (by unfold maxLen; omega) (by omega) (by simp; omega) ?_
          case hnews =>
            have := cell_three_new w2 (.int .i64 a.x) (.int .i64 a.y) (.int .i64 a.t) 38
            simpa using this
          intro v5 w5 hown5 hgrow5
          obtain ⟨A5, c5, rfl⟩ := ownsRow_form hown5
          have hT : Below w2.heap.size w2 (w2.alloc (Obj.cells #[.int .i64 a.x, .int .i64 a.y, .int .i64 a.t] 38)).drew := bl_dr (bl_al (bl_refl _) _)
          have hbX : Below (w.heap.size + 2) w2 w5 := (hT.mono (by omega)).grown hgrow5 (by simp; omega) (fun g e => (hO.out.lt g e).1)
          have m0 := (hbX.cell (p := ⟨w.heap.size, 0, none⟩) (by simp)).trans r0
          have m1 := (hbX.frozen (p := ⟨w.heap.size, 0, none⟩) (by simp)).trans rf
          have m2 := (hbX.cell (p := ⟨w.heap.size + 1, 0, none⟩) (by simp)).trans d0
          have mf := (hbX.frozen (p := ⟨w.heap.size + 1, 0, none⟩) (by simp)).trans df
          have l5 : w.heap.size + 1 < w5.heap.size := by have := hbX.size; omega
          have l50 : w.heap.size < w5.heap.size := by omega
          have hown5H := Lib.hid hown5
          have hbXH := Lib.hid (hbw.out.trans (hbX.mono (by omega)))
          clear hown5 hgrow5 hbX hT r0 rf d0 df
          repeat (first | ((with_reducible refine wpD_p (fun K hK => ?_)); go_simp; refine hK _ ?_; clear hK K) | ((with_reducible refine wpD_q (fun K hK => ?_)); go_simp; (first | refine hK _ ?_ | (go_bits; refine hK _ ?_) | (go_bits; go_simp; refine hK _ ?_)); clear hK K))
          with_reducible refine wpD_b (fun K hK => ?_)
          go_simp
          refine hK _ _ ?_
          clear hK K
          with_reducible refine wpD_nil ?_
          go_wp2
          go_roundg (n + m - (i + k + 1))
          case measure => omega
          case rel =>
            refine ⟨i + 1, k, N + 1, L ++ [a], A5, c5, by omega, by omega, by omega, by omega, by go_num, by go_num, Lib.hid (by rw [List.length_append, hLl.out]; rfl), Lib.hid ?_, Lib.hid (hbXH.out.setCell (p := ⟨w.heap.size + 1, 0, none⟩) (by simp) _), by simp; omega, by go_simp, by go_simp, by go_simp, by go_simp⟩
            rw [plCells_snoc]
            exact ownsRow_setCell_below hown5H.out (by simp) _
      · obtain rfl : k = m := by omega
        go_wp2
        refine wp_region_ord [(0, .q), (1, .q), (2, .q), (3, .q), (4, .q), (5, .q), (6, .q), (7, .q), (8, .q), (9, .q), (10, .q), (11, .q), (12, .q), (13, .q), (14, .q), (15, .q), (16, .q), (17, .q), (18, .q), (19, .q), (20, .q), (21, .q), (22, .q), (23, .q), (24, .q), (25, .q), (26, .q), (27, .q), (28, .q), (29, .q), (30, .q), (31, .q), (32, .g), (33, .q), (34, .q), (35, .q)] (by kernel_rfl) (by kernel_rfl) ?_
        simp only [pick, List.filterMap_cons, List.filterMap_nil, List.getElem?_toArray, List.getElem?_cons_zero, List.getElem?_cons_succ, Option.map_some]
        repeat (first
          | ((with_reducible refine wpD_p (fun K hK => ?_)); go_simp; refine hK _ ?_; clear hK K)
          | ((with_reducible refine wpD_q (fun K hK => ?_)); go_simp; (first | refine hK _ ?_ | (go_bits; refine hK _ ?_) | (go_bits; go_simp; refine hK _ ?_)); clear hK K)
          | ((with_reducible refine wpD_g (fun K hK => ?_)); go_simp; refine hK _ _ ?_; clear hK K)
          | ((with_reducible refine wpD_g (fun K hK => ?_)); go_simp; refine ⟨Grew.of_alloc _, hK _ _ ?_⟩; clear hK K)
          | ((with_reducible refine wpD_g (fun K hK => ?_)); go_simp; refine ⟨Below.refl _ _, hK _ _ ?_⟩; clear hK K))
        with_reducible refine wpD_nil ?_
        have hBw2 : Below wr.heap.size wr wr.drew := bl_dr (bl_refl _)
        generalize wr.drew = w2 at hBw2 ⊢
        replace a0 := (hBw2.cell (p := ⟨bA, oA + i * 3, none⟩) hbA).trans a0
        replace a1 := (hBw2.cell (p := ⟨bA, oA + i * 3 + 1, none⟩) hbA).trans a1
        replace a2 := (hBw2.cell (p := ⟨bA, oA + i * 3 + 2, none⟩) hbA).trans a2
        replace hbA := Nat.lt_of_lt_of_le hbA hBw2.size
        replace d0 := (hBw2.cell (p := ⟨w.heap.size + 1, 0, none⟩) hsz).trans d0
        replace df := (hBw2.frozen (p := ⟨w.heap.size + 1, 0, none⟩) hsz).trans df
        replace r0 := (hBw2.cell (p := ⟨w.heap.size, 0, none⟩) l0).trans r0
        replace rf := (hBw2.frozen (p := ⟨w.heap.size, 0, none⟩) l0).trans rf
        replace ga := (hBw2.cell (p := ⟨pa, oa, none⟩) la).trans ga
        replace gb := (hBw2.cell (p := ⟨pb, ob, none⟩) lb).trans gb
        replace hO := Lib.hid (ownsRow_below hO.out hBw2)
        replace hbw := Lib.hid (hbw.out.trans (Below.mono hBw2 hsw))
        replace hsz := Nat.lt_of_lt_of_le hsz hBw2.size
        replace la := Nat.lt_of_lt_of_le la hBw2.size
        replace lb := Nat.lt_of_lt_of_le lb hBw2.size
        replace l0 := Nat.lt_of_lt_of_le l0 hBw2.size
        replace hsw := Nat.le_trans hsw hBw2.size
        clear hBw2
        go_wp2
        refine wp_region_ord [(0, .q), (1, .q), (2, .q), (3, .q), (4, .q), (5, .q), (6, .q), (7, .q), (8, .q), (9, .g), (10, .b), (11, .q), (12, .b)] (by kernel_rfl) (by kernel_rfl) ?_
        simp only [pick, List.filterMap_cons, List.filterMap_nil, List.getElem?_toArray, List.getElem?_cons_zero, List.getElem?_cons_succ, Option.map_some]
        repeat (first
          | ((with_reducible refine wpD_p (fun K hK => ?_)); go_simp; refine hK _ ?_; clear hK K)
          | ((with_reducible refine wpD_q (fun K hK => ?_)); go_simp; (first | refine hK _ ?_ | (go_bits; refine hK _ ?_) | (go_bits; go_simp; refine hK _ ?_)); clear hK K)
          | ((with_reducible refine wpD_g (fun K hK => ?_)); go_simp; refine hK _ _ ?_; clear hK K)
          | ((with_reducible refine wpD_g (fun K hK => ?_)); go_simp; refine ⟨Grew.of_alloc _, hK _ _ ?_⟩; clear hK K))
        refine wpD_append rfl _ _ 24 rfl (w.heap.size + 2) 38 i2 (.agg #[.int .i64 0, .int .i64 0, .int .i64 0]) 3 24 Try.underlying24 hi2 hz02 hz12 hz22 rfl (by decide) (.slice A3 N c3) N (plCells L) (by go_simp) (ownsRow_below hO.out (by exact bel_)) ⟨w2.heap.size, 0, none⟩ 1 1 [.int .i64 a.x, .int .i64 a.y, .int .i64 a.t] (by go_simp) rfl ?hnews (fun x hx => by simp at hx; rcases hx with rfl | rfl | rfl <;> rfl) (by unfold maxLen; omega) (by omega) (by simp; omega) ?_
        case hnews =>
          have := cell_three_new w2 (.int .i64 a.x) (.int .i64 a.y) (.int .i64 a.t) 38
          simpa using this
        intro v5 w5 hown5 hgrow5
        obtain ⟨A5, c5, rfl⟩ := ownsRow_form hown5
        have hT : Below w2.heap.size w2 (w2.alloc (Obj.cells #[.int .i64 a.x, .int .i64 a.y, .int .i64 a.t] 38)).drew := bl_dr (bl_al (bl_refl _) _)
        have hbX : Below (w.heap.size + 2) w2 w5 := (hT.mono (by omega)).grown hgrow5 (by simp; omega) (fun g e => (hO.out.lt g e).1)
        have m0 := (hbX.cell (p := ⟨w.heap.size, 0, none⟩) (by simp)).trans r0
        have m1 := (hbX.frozen (p := ⟨w.heap.size, 0, none⟩) (by simp)).trans rf
        have m2 := (hbX.cell (p := ⟨w.heap.size + 1, 0, none⟩) (by simp)).trans d0
        have mf := (hbX.frozen (p := ⟨w.heap.size + 1, 0, none⟩) (by simp)).trans df
        have l5 : w.heap.size + 1 < w5.heap.size := by have := hbX.size; omega
        have l50 : w.heap.size < w5.heap.size := by omega
        have hown5H := Lib.hid hown5
        have hbXH := Lib.hid (hbw.out.trans (hbX.mono (by omega)))
        clear hown5 hgrow5 hbX hT r0 rf d0 df
        repeat (first | ((with_reducible refine wpD_p (fun K hK => ?_)); go_simp; refine hK _ ?_; clear hK K) | ((with_reducible refine wpD_q (fun K hK => ?_)); go_simp; (first | refine hK _ ?_ | (go_bits; refine hK _ ?_) | (go_bits; go_simp; refine hK _ ?_)); clear hK K))
        with_reducible refine wpD_b (fun K hK => ?_)
        go_simp
        refine hK _ _ ?_
        clear hK K
        with_reducible refine wpD_nil ?_
        go_wp2
        go_roundg (n + k - (i + k + 1))
        case measure => omega
        case rel =>
          refine ⟨i + 1, k, N + 1, L ++ [a], A5, c5, by omega, by omega, by omega, by omega, by go_num, by go_num, Lib.hid (by rw [List.length_append, hLl.out]; rfl), Lib.hid ?_, Lib.hid (hbXH.out.setCell (p := ⟨w.heap.size + 1, 0, none⟩) (by simp) _), by simp; omega, by go_simp, by go_simp, by go_simp, by go_simp⟩
          rw [plCells_snoc]
          exact ownsRow_setCell_below hown5H.out (by simp) _
    · obtain rfl : i = n := by omega
      by_cases hkm2 : k < m
      · obtain ⟨b, hmb⟩ : ∃ b, ms[k]? = some b := ⟨_, List.getElem?_eq_getElem (by omega)⟩
        obtain ⟨bB, oB, rfl, hbB, hcB⟩ := (hbH.out.below RPl.stable hbw.out).ptr (by omega)
        obtain ⟨b0, b1, b2⟩ := hcB k b hmb
        have hmbH := Lib.hid hmb
        clear hcB hmb
        have e1 : ((k : Int) == (m : Int)) = false := by simp; omega
        go_wp2
        refine wp_region_ord [(0, .q), (1, .q), (2, .q), (3, .q), (4, .q), (5, .q), (6, .q), (7, .q), (8, .q), (9, .q), (10, .q), (11, .q), (12, .q), (13, .q), (14, .q), (15, .q), (16, .q), (17, .q), (18, .q), (19, .q), (20, .q), (21, .q), (22, .q), (23, .q), (24, .q), (25, .q), (26, .q), (27, .q), (28, .q), (29, .q), (30, .q), (31, .q), (32, .g), (33, .q), (34, .q), (35, .q)] (by kernel_rfl) (by kernel_rfl) ?_
        simp only [pick, List.filterMap_cons, List.filterMap_nil, List.getElem?_toArray, List.getElem?_cons_zero, List.getElem?_cons_succ, Option.map_some]
        repeat (first
          | ((with_reducible refine wpD_p (fun K hK => ?_)); go_simp; refine hK _ ?_; clear hK K)
          | ((with_reducible refine wpD_q (fun K hK => ?_)); go_simp; (first | refine hK _ ?_ | (go_bits; refine hK _ ?_) | (go_bits; go_simp; refine hK _ ?_)); clear hK K)
          | ((with_reducible refine wpD_g (fun K hK => ?_)); go_simp; refine hK _ _ ?_; clear hK K)
          | ((with_reducible refine wpD_g (fun K hK => ?_)); go_simp; refine ⟨Grew.of_alloc _, hK _ _ ?_⟩; clear hK K)
          | ((with_reducible refine wpD_g (fun K hK => ?_)); go_simp; refine ⟨Below.refl _ _, hK _ _ ?_⟩; clear hK K))
        with_reducible refine wpD_nil ?_
        have hBw2 : Below wr.heap.size wr wr.drew := bl_dr (bl_refl _)
        generalize wr.drew = w2 at hBw2 ⊢
        replace b0 := (hBw2.cell (p := ⟨bB, oB + k * 3, none⟩) hbB).trans b0
        replace b1 := (hBw2.cell (p := ⟨bB, oB + k * 3 + 1, none⟩) hbB).trans b1
        replace b2 := (hBw2.cell (p := ⟨bB, oB + k * 3 + 2, none⟩) hbB).trans b2
        replace hbB := Nat.lt_of_lt_of_le hbB hBw2.size
        replace d0 := (hBw2.cell (p := ⟨w.heap.size + 1, 0, none⟩) hsz).trans d0
        replace df := (hBw2.frozen (p := ⟨w.heap.size + 1, 0, none⟩) hsz).trans df
        replace r0 := (hBw2.cell (p := ⟨w.heap.size, 0, none⟩) l0).trans r0
        replace rf := (hBw2.frozen (p := ⟨w.heap.size, 0, none⟩) l0).trans rf
        replace ga := (hBw2.cell (p := ⟨pa, oa, none⟩) la).trans ga
        replace gb := (hBw2.cell (p := ⟨pb, ob, none⟩) lb).trans gb
        replace hO := Lib.hid (ownsRow_below hO.out hBw2)
        replace hbw := Lib.hid (hbw.out.trans (Below.mono hBw2 hsw))
        replace hsz := Nat.lt_of_lt_of_le hsz hBw2.size
        replace la := Nat.lt_of_lt_of_le la hBw2.size
        replace lb := Nat.lt_of_lt_of_le lb hBw2.size
        replace l0 := Nat.lt_of_lt_of_le l0 hBw2.size
        replace hsw := Nat.le_trans hsw hBw2.size
        clear hBw2
        go_wp2
        refine wp_region_ord [(0, .q), (1, .q), (2, .q), (3, .q), (4, .q), (5, .q), (6, .q), (7, .q), (8, .q), (9, .q), (10, .q), (11, .q), (12, .q), (13, .q), (14, .q), (15, .q), (16, .q), (17, .q), (18, .q), (19, .q), (20, .q), (21, .q), (22, .q), (23, .q), (24, .g), (25, .q), (26, .q)] (by kernel_rfl) (by kernel_rfl) ?_
        simp only [pick, List.filterMap_cons, List.filterMap_nil, List.getElem?_toArray, List.getElem?_cons_zero, List.getElem?_cons_succ, Option.map_some]
        repeat (first
          | ((with_reducible refine wpD_p (fun K hK => ?_)); go_simp; refine hK _ ?_; clear hK K)
          | ((with_reducible refine wpD_q (fun K hK => ?_)); go_simp; (first | refine hK _ ?_ | (go_bits; refine hK _ ?_) | (go_bits; go_simp; refine hK _ ?_)); clear hK K)
          | ((with_reducible refine wpD_g (fun K hK => ?_)); go_simp; refine hK _ _ ?_; clear hK K)
          | ((with_reducible refine wpD_g (fun K hK => ?_)); go_simp; refine ⟨Grew.of_alloc _, hK _ _ ?_⟩; clear hK K)
          | ((with_reducible refine wpD_g (fun K hK => ?_)); go_simp; refine ⟨Below.refl _ _, hK _ _ ?_⟩; clear hK K))
        with_reducible refine wpD_nil ?_
        have hBw3 : Below w2.heap.size w2 w2.drew := bl_dr (bl_refl _)
        generalize w2.drew = w3 at hBw3 ⊢
        replace b0 := (hBw3.cell (p := ⟨bB, oB + k * 3, none⟩) hbB).trans b0
        replace b1 := (hBw3.cell (p := ⟨bB, oB + k * 3 + 1, none⟩) hbB).trans b1
        replace b2 := (hBw3.cell (p := ⟨bB, oB + k * 3 + 2, none⟩) hbB).trans b2
        replace hbB := Nat.lt_of_lt_of_le hbB hBw3.size
        replace d0 := (hBw3.cell (p := ⟨w.heap.size + 1, 0, none⟩) hsz).trans d0
        replace df := (hBw3.frozen (p := ⟨w.heap.size + 1, 0, none⟩) hsz).trans df
        replace r0 := (hBw3.cell (p := ⟨w.heap.size, 0, none⟩) l0).trans r0
        replace rf := (hBw3.frozen (p := ⟨w.heap.size, 0, none⟩) l0).trans rf
        replace ga := (hBw3.cell (p := ⟨pa, oa, none⟩) la).trans ga
        replace gb := (hBw3.cell (p := ⟨pb, ob, none⟩) lb).trans gb
        replace hO := Lib.hid (ownsRow_below hO.out hBw3)
        replace hbw := Lib.hid (hbw.out.trans (Below.mono hBw3 hsw))
        replace hsz := Nat.lt_of_lt_of_le hsz hBw3.size
        replace la := Nat.lt_of_lt_of_le la hBw3.size
        replace lb := Nat.lt_of_lt_of_le lb hBw3.size
        replace l0 := Nat.lt_of_lt_of_le l0 hBw3.size
        replace hsw := Nat.le_trans hsw hBw3.size
        clear hBw3
        go_wp2
        refine wp_region_ord [(0, .q), (1, .q), (2, .q), (3, .q), (4, .q), (5, .q), (6, .q), (7, .q), (8, .q), (9, .g), (10, .b), (11, .q), (12, .b)] (by kernel_rfl) (by kernel_rfl) ?_
        simp only [pick, List.filterMap_cons, List.filterMap_nil, List.getElem?_toArray, List.getElem?_cons_zero, List.getElem?_cons_succ, Option.map_some]
        repeat (first
          | ((with_reducible refine wpD_p (fun K hK => ?_)); go_simp; refine hK _ ?_; clear hK K)
          | ((with_reducible refine wpD_q (fun K hK => ?_)); go_simp; (first | refine hK _ ?_ | (go_bits; refine hK _ ?_) | (go_bits; go_simp; refine hK _ ?_)); clear hK K)
          | ((with_reducible refine wpD_g (fun K hK => ?_)); go_simp; refine hK _ _ ?_; clear hK K)
          | ((with_reducible refine wpD_g (fun K hK => ?_)); go_simp; refine ⟨Grew.of_alloc _, hK _ _ ?_⟩; clear hK K))
        refine wpD_append rfl _ _ 24 rfl (w.heap.size + 2) 38 i2 (.agg #[.int .i64 0, .int .i64 0, .int .i64 0]) 3 24 Try.underlying24 hi2 hz02 hz12 hz22 rfl (by decide) (.slice A3 N c3) N (plCells L) (by go_simp) (ownsRow_below hO.out (by exact bel_)) ⟨w3.heap.size, 0, none⟩ 1 1 [.int .i64 b.x, .int .i64 b.y, .int .i64 b.t] (by go_simp) rfl ?hnews (fun x hx => by simp at hx; rcases hx with rfl | rfl | rfl <;> rfl) (by unfold maxLen; omega) (by omega) (by simp; omega) ?_
        case hnews =>
          have := cell_three_new w3 (.int .i64 b.x) (.int .i64 b.y) (.int .i64 b.t) 38
          simpa using this
        intro v5 w5 hown5 hgrow5
        obtain ⟨A5, c5, rfl⟩ := ownsRow_form hown5
        have hT : Below w3.heap.size w3 (w3.alloc (Obj.cells #[.int .i64 b.x, .int .i64 b.y, .int .i64 b.t] 38)).drew := bl_dr (bl_al (bl_refl _) _)
        have hbX : Below (w.heap.size + 2) w3 w5 := (hT.mono (by omega)).grown hgrow5 (by simp; omega) (fun g e => (hO.out.lt g e).1)
        have m0 := (hbX.cell (p := ⟨w.heap.size, 0, none⟩) (by simp)).trans r0
        have m1 := (hbX.frozen (p := ⟨w.heap.size, 0, none⟩) (by simp)).trans rf
        have m2 := (hbX.cell (p := ⟨w.heap.size + 1, 0, none⟩) (by simp)).trans d0
        have mf := (hbX.frozen (p := ⟨w.heap.size + 1, 0, none⟩) (by simp)).trans df
        have l5 : w.heap.size + 1 < w5.heap.size := by have := hbX.size; omega
        have l50 : w.heap.size < w5.heap.size := by omega
        have hown5H := Lib.hid hown5
        have hbXH := Lib.hid (hbw.out.trans (hbX.mono (by omega)))
        clear hown5 hgrow5 hbX hT r0 rf d0 df
        repeat (first | ((with_reducible refine wpD_p (fun K hK => ?_)); go_simp; refine hK _ ?_; clear hK K) | ((with_reducible refine wpD_q (fun K hK => ?_)); go_simp; (first | refine hK _ ?_ | (go_bits; refine hK _ ?_) | (go_bits; go_simp; refine hK _ ?_)); clear hK K))
        with_reducible refine wpD_b (fun K hK => ?_)
        go_simp
        refine hK _ _ ?_
        clear hK K
        with_reducible refine wpD_nil ?_
        go_wp2
        go_roundg (i + m - (i + k + 1))
        case measure => omega
        case rel =>
          refine ⟨i, k + 1, N + 1, L ++ [b], A5, c5, by omega, by omega, by omega, by omega, by go_num, by go_num, Lib.hid (by rw [List.length_append, hLl.out]; rfl), Lib.hid ?_, Lib.hid (hbXH.out.setCell (p := ⟨w.heap.size + 1, 0, none⟩) (by simp) _), by simp; omega, by go_simp, by go_simp, by go_simp, by go_simp⟩
          rw [plCells_snoc]
          exact ownsRow_setCell_below hown5H.out (by simp) _
      · obtain rfl : k = m := by omega
        go_wp2
        refine bodyPost_ret (v := .tuple #[.agg #[.slice A3 N c3], .bool true]) (by simp only [results, Try.results29]; go_simp) rfl ?_
        exact ⟨A3, c3, L, N, true, rfl, own_baseP (ownsRow_setCell_below hO.out (by simp) _) (by omega), hLl.out, by omega, hbw.out.setCell (p := ⟨w.heap.size, 0, none⟩) (by simp) _⟩
end Go.Proofs.Ytpnahobgmemdjaa
/- Walk: the assembly of the law on parts, drawn from bytes. -/

namespace Go.Proofs.Ytpnahobgmemdjaa
open Go.RowKit
attribute [local go_sem] BelowBy.cell BelowBy.cell_drew stillUpon givesUpon KpBy.cell KpBy.cell_drew

/-- any row of placed tiles of the call's own -/
def AnyAsm (w : World) (e : Ending) (w' : World) : Prop := ∃ A c xs N, e = .returned (.agg #[.slice A N c]) ∧ w'.ownsRow w.heap.size 38 3 (.slice A N c) N (plCells xs) ∧ xs.length = N ∧ N ≤ 2000 ∧ Below w.heap.size w w'
theorem draw_close {w w9 : World} {A5 : Option Addr} {N c5 : Nat} {xs : List Pl} (hO : w9.ownsRow (w.heap.size + 1) 38 3 (.slice A5 N c5) N (plCells xs)) (hl : xs.length = N) (hN : N ≤ 2000) (hb : Below w.heap.size w w9) :
    AnyAsm w (.returned (.agg #[.slice A5 N c5])) (w9.setCell ⟨w.heap.size, 0, none⟩ (.slice A5 N c5)) :=
  ⟨A5, c5, xs, N, rfl, own_baseP (ownsRow_setCell_below hO (a := ⟨w.heap.size, 0, none⟩) (Nat.lt_succ_self _) _) (Nat.le_succ _), hl, hN, hb.setCell (p := ⟨w.heap.size, 0, none⟩) (Nat.le_refl _) _⟩
theorem AnyAsm.alloc {w w' : World} {e : Ending} (h : AnyAsm w e w') (o : Obj) : AnyAsm w e (w'.alloc o) := by
  obtain ⟨A, c, xs, N, h1, h2, h3, h4, h5⟩ := h
  exact ⟨A, c, xs, N, h1, h2.alloc o, h3, h4, h5.alloc h5.size o⟩
theorem rdPl_own {w : World} {base : Nat} {A : Option Addr} {N c : Nat} {xs : List Pl} (h : w.ownsRow base 38 3 (.slice A N c) N (plCells xs)) (hl : xs.length = N) : RdSl 3 RPl w A N xs := by
  subst hl
  obtain ⟨A', c', e, h1⟩ := rdP_of_row h
  injection e with e1 e2 e3
  rw [e1]; exact h1
set_option maxRecDepth 100000 in
set_option maxHeartbeats 4000000 in
theorem DrawPartsOf_any {C : Option Addr} {n c : Nat} {bs : List Nat} {w : World} (h : RdSl 1 RBy w C n bs) (hn : n ≤ 1000000) :
    Calls Try.prog 6 #[.slice C n c] w (AnyAsm w) := by
  have hH := Lib.hid h
  clear h
  go_enter Try.func6, Try.ntmps6
  go_wp2_with fail
  obtain ⟨a0, ha0⟩ : ∃ W, W = w.alloc (Obj.cells #[.slice none 0 0] 26) := ⟨_, rfl⟩
  rw [← ha0]
  have s0 : a0.heap.size = w.heap.size + 1 := by rw [ha0, World.size_alloc]
  have b0 : Below w.heap.size w a0 := by rw [ha0]; exact bl_al (bl_refl _) _
  have bR0 : Hid (Bx a0 w.heap.size [.slice none 0 0]) := Lib.hid (by rw [ha0]; exact Bx.made w [.slice none 0 0] 26)
  have hH0 := Lib.hid (hH.out.below RBy.stable b0)
  have hbw0 := Lib.hid b0
  clear ha0 b0
  refine (l00FromE_any hH0.out hn).mono ?_
  rintro e w1 ⟨p, rfl, hp, hS1, hb1⟩
  have hS := Lib.hid hS1
  have bR1 := Lib.hid (bR0.out.below hb1)
  have hbw1 := Lib.hid (hbw0.out.trans (hb1.mono (by omega)))
  have hneR : w.heap.size ≠ p := by omega
  have hwp : w.heap.size ≤ p := by omega
  have hwp1 : w.heap.size + 1 ≤ p := by omega
  have hp1 := hS1.lt
  clear hS1 hb1 bR0 hbw0 hH0
  go_wp2_with fail
  refine (l03Bent_any hS.out (by omega)).mono ?_
  rintro e w2 ⟨A, ca, xs, N, rfl, hO2, hl2, hN2, hS2, hk2⟩
  have bR2 := Lib.hid (bR1.out.kp hneR hk2)
  have hbw2 := Lib.hid (hbw1.out.trans (hk2.below.mono hwp))
  have hS2 := Lib.hid hS2
  have hO2 := Lib.hid hO2
  have hl2 := Lib.hid hl2
  have hsz2 := hk2.below.size
  have lp2 := hS2.out.lt
  clear hk2 bR1 hbw1 hS
  go_wp2_with fail
  have hal : Below w2.heap.size w2 (w2.alloc (Obj.cells #[.slice A N ca] 26)) := bl_al (bl_refl _) _
  have bA2 := Lib.hid (Bx.made w2 [.slice A N ca] 26)
  have bR3 := Lib.hid (bR2.out.below hal)
  have hbw3 := Lib.hid (hbw2.out.trans (hal.mono (show w.heap.size ≤ w2.heap.size by omega)))
  have hO3 := Lib.hid (ownsRow_below hO2.out hal)
  refine (l03Draw_any (m := 4) (hS2.out.below hal) (by omega) (by omega) (by omega)).mono ?_
  rintro e w3 ⟨vb, ys, rfl, hO4, hD, hS4, hk4⟩
  obtain ⟨m, hym⟩ : ∃ m, ys.length = m := ⟨_, rfl⟩
  have hm11 := hD.len
  rw [hym] at hO4 hm11
  obtain ⟨B, cb, rfl⟩ := ownsRow_form hO4
  obtain ⟨bb, hbb⟩ : ∃ bb, w2.heap.size = bb := ⟨_, rfl⟩
  simp only [hbb] at bA2
  have hneB : bb ≠ p := by omega
  have hlwb : w.heap.size < bb := by omega
  have bA4 := Lib.hid (bA2.out.kp hneB hk4)
  have bR4 := Lib.hid (bR3.out.kp hneR hk4)
  have hbw4 := Lib.hid (hbw3.out.trans (hk4.below.mono hwp))
  have hO5 : Hid (w3.ownsRow w1.heap.size 38 3 (.slice A N ca) N (plCells xs)) := Lib.hid (Own_kp hO3.out (by omega) hk4)
  have hS4 := Lib.hid hS4
  have hO4 := Lib.hid hO4
  have hym := Lib.hid hym
  have lw3 : bb < w3.heap.size := by have := hk4.below.size; simp at this; omega
  have lp3 := hS4.out.lt
  clear hal hk4 hD bA2 bR2 bR3 hbw2 hbw3 hO2 hO3 hS2
  go_wp2_with fail
  have hal : Below w3.heap.size w3 (w3.alloc (Obj.cells #[.slice B m cb] 26)) := bl_al (bl_refl _) _
  have bB5 := Lib.hid (Bx.made w3 [.slice B m cb] 26)
  have bA5 := Lib.hid (bA4.out.below hal)
  have bR5 := Lib.hid (bR4.out.below hal)
  have hbw5 := Lib.hid (hbw4.out.trans (hal.mono (show w.heap.size ≤ w3.heap.size by omega)))
  have hO6 := Lib.hid (ownsRow_below hO5.out hal)
  have hO7 := Lib.hid (ownsRow_below hO4.out hal)
  refine (oneE_any 2 (hS4.out.below hal) (by omega) rfl (by omega) (by omega)).mono ?_
  rintro e w4 ⟨v, rfl, hS5, hk5⟩
  obtain ⟨bc, hbc⟩ : ∃ bc, w3.heap.size = bc := ⟨_, rfl⟩
  simp only [hbc] at bB5
  have hneC : bc ≠ p := by omega
  have bA6 := Lib.hid (bA5.out.kp hneB hk5)
  have bB6 := Lib.hid (bB5.out.kp hneC hk5)
  have bR6 := Lib.hid (bR5.out.kp hneR hk5)
  have hbw6 := Lib.hid (hbw5.out.trans (hk5.below.mono hwp))
  have hO8 := Lib.hid (Own_kp hO6.out (show p < w1.heap.size by omega) hk5)
  have hO9 : Hid (w4.ownsRow (w2.alloc (Obj.cells #[.slice A N ca] 26)).heap.size 38 3 (.slice B m cb) m (plCells ys)) := Lib.hid (Own_kp hO7.out (by simp; omega) hk5)
  have lw4 : bc < w4.heap.size := by have := hk5.below.size; simp at this; omega
  clear hal hk5 hS5 hS4 bA4 bA5 bB5 bR4 bR5 hbw4 hbw5 hO4 hO5 hO6 hO7
  have y0 := bA6.out.cell 0 _ rfl
  have ly := bA6.out.lt
  have r0 := bR6.out.cell 0 _ rfl
  have rf := bR6.out.froz 0
  have rl := bR6.out.lt
  cases v
  · go_wp2
    refine bodyPost_ret (v := .agg #[.slice A N ca]) (by simp only [results, Try.results6]; go_simp) rfl ?_
    exact draw_close (own_baseP hO8.out (by omega)) hl2.out (by omega) hbw6.out
  · go_wp2_with fail
    refine (l03JoinW_any bb bc xs ys _ ⟨bA6.out.lt, A, N, ca, bA6.out.cell 0 _ rfl, rdPl_own hO8.out hl2.out⟩ ⟨bB6.out.lt, B, m, cb, bB6.out.cell 0 _ rfl, rdPl_own hO9.out hym.out⟩ (by rw [hl2.out]; omega) (by rw [hym.out]; omega)).mono ?_
    rintro e w5 ⟨D, cd, zs, L, ok, rfl, hO10, hlz, hL, hb5⟩
    have bA7 := Lib.hid (bA6.out.below hb5)
    have bR7 := Lib.hid (bR6.out.below hb5)
    have hbw7 := Lib.hid (hbw6.out.trans (hb5.mono (show w.heap.size ≤ w4.heap.size by omega)))
    have hO11 := Lib.hid (ownsRow_below hO8.out hb5)
    have hO10 := Lib.hid hO10
    have hlz := Lib.hid hlz
    have hs5 := hb5.size
    clear hb5 bA6 bR6 hbw6 hO8 y0 ly r0 rf rl
    have y0 := bA7.out.cell 0 _ rfl
    have ly := bA7.out.lt
    have r0 := bR7.out.cell 0 _ rfl
    have rf := bR7.out.froz 0
    have rl := bR7.out.lt
    cases ok
    · go_wp2
      refine bodyPost_ret (v := .agg #[.slice A N ca]) (by simp only [results, Try.results6]; go_simp) rfl ?_
      exact (draw_close (own_baseP hO11.out (by omega)) hl2.out (by omega) hbw7.out).alloc _
    · go_wp2
      refine bodyPost_ret (v := .agg #[.slice D L cd]) (by simp only [results, Try.results6]; go_simp) rfl ?_
      exact (draw_close (own_baseP hO10.out (by omega)) hlz.out hL hbw7.out).alloc _
end Go.Proofs.Ytpnahobgmemdjaa
