import Derived.Test.YtpnahobgmemdjaaGAT
import Derived.OneCell
import Derived.Test.YtpnahobgmemdjaaGBK
import Derived.Test.YtpnahobgmemdjaaGBD
import Derived.Maps.AppendAt
import Derived.Deep.RegionLaw
set_option linter.unusedSimpArgs false
set_option linter.unusedVariables false
/- Rows of one type lie in no block of another type. -/


namespace Go.Proofs.Ytpnahobgmemdjaa
theorem own_ne_row {w : World} {base : Nat} {e T : TypeId} {size : Nat} {v : Value} {n : Nat} {xs : List Value} {g N : Nat} {f : Nat → Value} (h : w.ownsRow base e size v n xs) (hr : w.rowIs g T N f) (hne : e ≠ T) : v.ownBlock ≠ some g := by
  rcases h.2 with ⟨rfl, _⟩ | ⟨g', cap, cur, rfl, _, hh, _⟩
  · intro hc
    cases hc
  · intro hc
    have hg : some g' = some g := hc
    injection hg with hg
    subst hg
    obtain ⟨cur', hh', _⟩ := hr
    have := Option.some.inj (hh.symm.trans hh')
    injection this with _ h3
    exact hne h3
theorem mkRow_hi {w : World} {base size n c hi : Nat} {e : TypeId} {A : Option Addr} {xs : List Value} (h : w.ownsRow base e size (.slice A n c) n xs) (hh : ∀ g, (Value.slice A n c).ownBlock = some g → g < hi) : MkRow e size base hi w A n := fun hn => by
  obtain ⟨g, N, f, h1, h2, _, h4, h5⟩ := mkRow_of_owns h hn
  exact ⟨g, N, f, h1, h2, hh g (by subst h1; rfl), h4, h5⟩
end Go.Proofs.Ytpnahobgmemdjaa
/- Walk: an assembly scaled up. -/



namespace Go.Proofs.Ytpnahobgmemdjaa
open Go.RowKit
attribute [local go_sem] BelowBy.cell BelowBy.cell_drew stillUpon givesUpon

structure RowPl (w : World) (base : Nat) (v : Value) (N : Nat) (L : List Pl) : Prop where
  own : w.ownsRow base 38 3 v N (plCells L)
  len : L.length = N
theorem RowPl.below {w w' : World} {base N : Nat} {v : Value} {L : List Pl} (h : RowPl w base v N L) (hb : Below w.heap.size w w') : RowPl w' base v N L := ⟨ownsRow_below h.own hb, h.len⟩
theorem RowPl.snoc {w : World} {base N : Nat} {v : Value} {L : List Pl} {x y t : Int} (hl : L.length = N) (h : w.ownsRow base 38 3 v (N + 1) (plCells L ++ [.int .i64 x, .int .i64 y, .int .i64 t])) : RowPl w base v (N + 1) (L ++ [⟨x, y, t⟩]) :=
  ⟨by rw [plCells_snoc]; exact h, by rw [List.length_append, hl]; rfl⟩
theorem RowPl.rd {w : World} {base N c : Nat} {A : Option Addr} {L : List Pl} (h : RowPl w base (.slice A N c) N L) : RdSl 3 RPl w A N L := by
  obtain ⟨h1, h2⟩ := h
  subst h2
  obtain ⟨A', c', e, h3⟩ := rdP_of_row h1
  injection e with e1 e2 e3
  rw [e1]; exact h3
theorem own_ne_ownF {w : World} {base base' size s2 n n' g : Nat} {e T : TypeId} {v v' : Value} {xs xs' : List Value} (h : w.ownsRow base e size v n xs) (k : w.ownsRow base' T s2 v' n' xs') (hne : e ≠ T) (hg : v'.ownBlock = some g) : v.ownBlock ≠ some g := by
  rcases k.2 with ⟨rfl, _⟩ | ⟨g', cap, cur, rfl, _, hh, _⟩
  · cases hg
  · have e1 : some g' = some g := hg
    injection e1 with e1
    subst e1
    exact own_ne_row h (N := cur.size) (f := fun j => cur.getD j undef) ⟨cur, hh, rfl, fun i hi => by simp [hi]⟩ hne
theorem own_keptF {w w5 : World} {v : Value} {n : Nat} {xs : List Value} {row : Option Nat} {base : Nat} {e : TypeId} {sz : Nat} (h : w.ownsRow base e sz v n xs) (hg : w.grownBy w5 row) (hne : ∀ g, row = some g → v.ownBlock ≠ some g) : w5.ownsRow base e sz v n xs := by
  refine h.kept hg ?_
  cases hb : v.ownBlock with
  | none => exact .inl rfl
  | some g => exact .inr fun e => hne g e.symm hb
theorem cell_three_newF (w : World) (a b c : Value) (t : TypeId) : ∀ j u, [a, b, c][j]? = some u → (w.alloc (Obj.cells #[a, b, c] t)).cell? ((⟨w.heap.size, 0, none⟩ : Addr).add j) = some u := by
  intro j u hj
  match j, hj with
  | 0, hj => simp at hj; subst hj; simp [Addr.add]
  | 1, hj => simp at hj; subst hj; simp [Addr.add]
  | 2, hj => simp at hj; subst hj; simp [Addr.add]
  | j + 3, hj => simp at hj
theorem upN_succ {k : Nat} {xs : List Pl} {j : Nat} {e : Pl} (h : xs[j]? = some e) : upN k xs (j + 1) = upN k xs j ++ cellT k e (k * k) := by
  unfold upN; rw [flatMap_succ, plAt_of h]
set_option maxRecDepth 100000 in
set_option maxHeartbeats 4000000 in
theorem ScaleUp_any {A : Option Addr} {n c k N : Nat} {ps : List Pt} {Z : List Pl} {w : World} (h : RdSl 3 RPl w A n (asmP ps)) (h3 : S3 ps k) (h1 : 1 ≤ n) (hZ : bigP k ps = Z) (hN : Z.length = N) :
    Calls Try.prog 16 #[.agg #[.slice A n c], .int .i64 (k : Int)] w fun e w' => ∃ B c', e = .returned (.tuple #[.agg #[.slice B N c'], .int .i64 0]) ∧ RdSl 3 RPl w' B N Z ∧ Below w.heap.size w w' := by
  obtain ⟨i0, hi, hz0, hz1, hz2⟩ := info_parts infoPl
  have hlen := h.len
  have hn : ps.length = n := by rw [← hlen]; exact (asmN_len _ _).symm
  have hn10 : n ≤ 10 := by have := h3.n; omega
  have hk := h3.k
  have hq9 := kk9 h3
  obtain ⟨q, hq⟩ : ∃ q, k * k = q := ⟨_, rfl⟩
  have hqH := Lib.hid hq
  have hq1 : 1 ≤ q := by rw [← hq]; exact Nat.mul_pos (by omega) (by omega)
  have hNn : Hid (N = n * q) := Lib.hid (by rw [← hN, ← hZ, big_len h3, hn, hq])
  have hq9' : q ≤ 9 := by omega
  have hblk := Lib.hid (show blkCode (asmP ps) (k : Int) = 0 by
    unfold blkCode
    rw [if_pos (asmP_form h3.s (by omega) (by omega)), if_pos (inB_true.2 (by omega))])
  have hfZ := Lib.hid (show hasFormB Z = true by rw [← hZ]; exact big_form h3)
  have hap := Lib.hid (up_apart h3)
  have hrg := Lib.hid (fun (m : Nat) (e : Pl) (he : (asmP ps)[m]? = some e) => (show ((-9 ≤ e.x ∧ e.x ≤ 9) ∧ (-9 ≤ e.y ∧ e.y ≤ 9)) ∧ e.t = (m : Int) by
    obtain ⟨p, hp, rfl⟩ := asmP_at he
    exact ⟨h3.s.rng p (List.mem_of_getElem? hp), rfl⟩))
  have hrect := Lib.hid (fun (i : Nat) (hi : i < q) => (show (rectP 0 0 k k)[i]? = some ⟨((i % k : Nat) : Int), ((i / k : Nat) : Int)⟩ from rect_get (by omega) (by rw [hq]; exact hi)))
  have hidx := Lib.hid (fun (i : Nat) (hi : i < q) => (show i % k < k ∧ i / k < k from idx_lt hk (by rw [hq]; exact hi)))
  obtain ⟨xs, hxs⟩ : ∃ xs, asmP ps = xs := ⟨_, rfl⟩
  have hZ' : Hid (sortPl (upT k xs) = Z) := Lib.hid (by rw [← hxs]; exact hZ)
  rw [hxs] at h hblk hap hrg hlen
  have hH := Lib.hid h
  have hlH := Lib.hid hlen
  have hNH := Lib.hid hN
  clear h hlen hn hN hZ hq hq9 h3 hxs
  go_enter Try.func16, Try.ntmps16
  go_wp2_with fail
  have hal : Below w.heap.size w ((w.alloc (Obj.cells #[.slice A n c] 26)).alloc (Obj.cells #[.slice none 0 0] 26)) := bl_al (bl_al (bl_refl _) _) _
  have bA0 := (Bx.made w [.slice A n c] 26).below (bl_al (bl_refl _) (Obj.cells #[.slice none 0 0] 26))
  have bR0 := Bx.made (w.alloc (Obj.cells #[.slice A n c] 26)) [.slice none 0 0] 26
  rw [World.size_alloc] at bR0
  refine (blockCode_at (hH.out.below RPl.stable hal) (by omega) hblk.out).mono ?_
  rintro e w3 ⟨rfl, hb3⟩
  have bA := Lib.hid (bA0.below hb3)
  have bR := Lib.hid (bR0.below hb3)
  have hbw3 := Lib.hid (hal.trans (hb3.mono hal.size))
  have hX3 := Lib.hid (hH.out.below RPl.stable (hal.trans (hb3.mono hal.size)))
  clear hal bA0 bR0 hb3
  have y0 := bA.out.cell 0 _ rfl
  have l0 := bA.out.lt
  have lR := bR.out.lt
  go_wp2_with fail
  clear y0
  go_loopg [23, 7] n (fun g i v wr => ∃ (m M : Nat), m + g = n ∧ M ≤ 100 * m ∧ i = .int .i64 (m : Int) ∧ Hid (RowPl wr w3.heap.size v M (upN k xs m)) ∧ Hid (Below w3.heap.size w3 wr))
  case atStart => exact ⟨0, 0, by omega, by omega, rfl, Lib.hid ⟨World.ownsRow_nil _ _ _ _, rfl⟩, Lib.hid (bl_refl _)⟩
  case round =>
    obtain ⟨m, M, hm, hM, rfl, hO, hbw⟩ := hrel
    have hszl := hbw.out.size
    obtain ⟨A1, c1, rfl⟩ := ownsRow_form hO.out.own
    by_cases hmn : m < n
    · have hmI : (m : Int) < (n : Int) := by omega
      have hAw := hX3.out.below RPl.stable hbw.out
      obtain ⟨bb, ob, rfl, hbb, hbc⟩ := hAw.ptr (by omega)
      obtain ⟨e, he⟩ := hAw.get hmn
      obtain ⟨e0, e1, e2⟩ := hbc m e he
      obtain ⟨her, het⟩ := hrg.out m e he
      have heH := Lib.hid he
      rw [het] at e2
      have hetH := Lib.hid het
      clear hbc he hAw het
      obtain ⟨b9, hb9⟩ : ∃ b, wr.heap.size = b := ⟨_, rfl⟩
      obtain ⟨wa, hwa⟩ : ∃ z, z = wr.alloc (Obj.cells #[.int .i64 e.x, .int .i64 e.y, .int .i64 (m : Int)] 38) := ⟨_, rfl⟩
      have hal : Below wr.heap.size wr wa := by rw [hwa]; exact bl_al (bl_refl _) _
      have bP0 : Bx wa wr.heap.size [.int .i64 e.x, .int .i64 e.y, .int .i64 (m : Int)] := by rw [hwa]; exact Bx.made wr [.int .i64 e.x, .int .i64 e.y, .int .i64 (m : Int)] _
      rw [hb9] at bP0
      have hO0 := hO.out.below hal
      have hne0 : Hid ((Value.slice A1 M c1).ownBlock ≠ some b9) := Lib.hid (fun e => by have := (hO.out.own.lt _ e).2; omega)
      have hbw0 := hbw.out.trans (hal.mono hszl)
      go_wp2_with fail
      rw [← hwa]
      try simp only [hb9]
      clear hwa hb9 hal hO hbw hszl
      refine (cells_any (k := k) (by omega)).mono ?_
      rintro _ w5 ⟨vc, rfl, hOc, hb5⟩
      rw [hqH.out] at hOc
      obtain ⟨C, cc, rfl⟩ := ownsRow_form hOc
      have hs0 := hbw0.size
      have hcs := Lib.hid (ownsRow_baseQ hOc hs0)
      have hO5 := Lib.hid (hO0.below hb5)
      have bP5 := Lib.hid (bP0.below hb5)
      have hbw5 := Lib.hid (hbw0.trans (hb5.mono hs0))
      clear hOc hb5 hO0 bP0 hbw0 hs0
      go_wp2_with fail
      go_loopg [30, 7] q (fun g i v wr => ∃ (j R : Nat) (A1 : Option Addr) (c1 : Nat), j + g = q ∧ R ≤ M + j ∧ i = .int .i64 (j : Int) ∧ v = .slice A1 R c1 ∧ Hid (RowPl wr w3.heap.size (.slice A1 R c1) R (upN k xs m ++ cellT k e j)) ∧ Hid (Below w3.heap.size w3 wr) ∧ Hid (Bx wr b9 [.int .i64 e.x, .int .i64 e.y, .int .i64 (m : Int)]) ∧ Hid ((Value.slice A1 R c1).ownBlock ≠ some b9) ∧ Hid (wr.ownsRow w3.heap.size 34 2 (.slice C q cc) q (ptCells (rectP 0 0 k k))))
      case atStart => exact ⟨0, M, A1, c1, by omega, by omega, rfl, rfl, Lib.hid (by rw [show cellT k e 0 = [] from rfl, List.append_nil]; exact hO5.out), hbw5, bP5, hne0, hcs⟩
      case round =>
        clear hO5 hbw5 bP5 hne0 hcs
        obtain ⟨j, R, A1, c1, hj, hR, rfl, rfl, hO, hbw, bP, hne, hcs⟩ := hrel
        by_cases hjq : j < q
        · have hjI : (j : Int) < (q : Int) := by omega
          obtain ⟨cx, hcx⟩ : ∃ v, j % k = v := ⟨_, rfl⟩
          obtain ⟨cy, hcy⟩ : ∃ v, j / k = v := ⟨_, rfl⟩
          have hrc := hrect.out j hjq
          have hix := hidx.out j hjq
          rw [hcx, hcy] at hrc hix
          obtain ⟨gC, oC, hCe, hgC, hcC⟩ := (rdPt_own hcs.out (by rw [rectP_len]; exact hqH.out)).ptr (by omega)
          obtain ⟨p0, p1⟩ := hcC j _ hrc
          subst hCe
          have hcxH := Lib.hid hcx
          have hcyH := Lib.hid hcy
          clear hcC hrc hcx hcy
          obtain ⟨X, hX⟩ : ∃ X : Int, (k : Int) * e.x + (cx : Int) = X := ⟨_, rfl⟩
          obtain ⟨Y, hY⟩ : ∃ Y : Int, (k : Int) * e.y + (cy : Int) = Y := ⟨_, rfl⟩
          obtain ⟨a1, ha1⟩ : ∃ a1, m * k = a1 := ⟨_, rfl⟩
          have ha1b : a1 ≤ 30 := by rw [← ha1]; exact Nat.le_trans (Nat.mul_le_mul (show m ≤ 10 by omega) (show k ≤ 3 by omega)) (by decide)
          obtain ⟨a2, ha2⟩ : ∃ a2, a1 * k = a2 := ⟨_, rfl⟩
          have ha2b : a2 ≤ 90 := by rw [← ha2]; exact Nat.le_trans (Nat.mul_le_mul ha1b (show k ≤ 3 by omega)) (by decide)
          have ha2q : Hid (m * q = a2) := Lib.hid (by rw [← ha2, ← ha1, ← hqH.out, Nat.mul_assoc])
          have w1 : IntKind.i64.wrap ((m : Int) * (k : Int)) = (a1 : Int) := by rw [← Int.natCast_mul, ha1]; exact wrapFs (by omega) (by omega)
          have w2 : IntKind.i64.wrap ((a1 : Int) * (k : Int)) = (a2 : Int) := by rw [← Int.natCast_mul, ha2]; exact wrapFs (by omega) (by omega)
          obtain ⟨tt, htt⟩ : ∃ tt, a2 + j = tt := ⟨_, rfl⟩
          have w4 : IntKind.i64.wrap ((a2 : Int) + (j : Int)) = (tt : Int) := by rw [wrapFs (by omega) (by omega)]; omega
          have hXH := Lib.hid hX
          have hYH := Lib.hid hY
          have httH := Lib.hid htt
          have hszl := hbw.out.size
          have l9 := bP.out.lt
          obtain ⟨b11, hb11⟩ : ∃ b, wr.heap.size = b := ⟨_, rfl⟩
          obtain ⟨wa2, hwa2⟩ : ∃ z, z = wr.alloc (Obj.cells #[.int .i64 (cx : Int), .int .i64 (cy : Int)] 34) := ⟨_, rfl⟩
          have hal : Below wr.heap.size wr wa2 := by rw [hwa2]; exact bl_al (bl_refl _) _
          have bC0 : Bx wa2 wr.heap.size [.int .i64 (cx : Int), .int .i64 (cy : Int)] := by rw [hwa2]; exact Bx.made wr [.int .i64 (cx : Int), .int .i64 (cy : Int)] _
          rw [hb11] at bC0
          have bC1 := Lib.hid bC0
          have hO1 := Lib.hid (hO.out.below hal)
          have hcs1 := Lib.hid (ownsRow_below hcs.out hal)
          have bP1 := Lib.hid (bP.out.below hal)
          have hbw1 := Lib.hid (hbw.out.trans (hal.mono hszl))
          clear ha1 ha2 htt hX hY hal bC0 hO hcs bP hbw
          go_wp2_with fail
          rw [← hwa2]
          try simp only [hb11]
          clear hwa2 hb11 p0 p1 hgC l9
          have x0 := bP1.out.cell 0 _ rfl
          have x1 := bP1.out.cell 1 _ rfl
          have x2 := bP1.out.cell 2 _ rfl
          have lx := bP1.out.lt
          have z0 := bC1.out.cell 0 _ rfl
          have z1 := bC1.out.cell 1 _ rfl
          have lz := bC1.out.lt
          refine wp_region_ord [(0, .q), (1, .q), (2, .q), (3, .q), (4, .q), (6, .q), (7, .q), (8, .q), (9, .q), (10, .q), (11, .q), (12, .q), (13, .q), (5, .g), (14, .q), (15, .g), (16, .b), (17, .q)] (by kernel_rfl) (by kernel_rfl) ?_
          simp only [pick, List.filterMap_cons, List.filterMap_nil, List.getElem?_toArray, List.getElem?_cons_zero, List.getElem?_cons_succ, Option.map_some]
          have jb : Below wa2.heap.size wa2 wa2.drew := bl_dr (bl_refl _)
          repeat (first | ((with_reducible refine wpD_p (fun K hK => ?_)); go_simp; refine hK _ ?_; clear hK K) | ((with_reducible refine wpD_q (fun K hK => ?_)); go_simp; (first | refine hK _ ?_ | (go_bits; refine hK _ ?_) | (go_bits; go_simp; refine hK _ ?_)); clear hK K))
          with_reducible refine wpD_g (fun KK hKK => ?_)
          go_simp
          refine (pointOf_any (r := X) (s := Y) (by omega) (by omega) (by omega) (by omega) (by omega) hXH.out hYH.out).mono ?_
          rintro _ w6 ⟨rfl, hb⟩
          refine ⟨_, rfl, hb, hKK _ _ ?_⟩
          clear hKK KK x0 x1 x2 lx z0 z1 lz
          replace jb := jb.trans (hb.mono jb.size)
          clear hb
          have x2 := (bP1.out.below jb).cell 2 _ rfl
          have lx := (bP1.out.below jb).lt
          repeat (first | ((with_reducible refine wpD_p (fun K hK => ?_)); go_simp; refine hK _ ?_; clear hK K) | ((with_reducible refine wpD_q (fun K hK => ?_)); go_simp; (first | refine hK _ ?_ | (go_bits; refine hK _ ?_) | (go_bits; go_simp; refine hK _ ?_)); clear hK K))
          with_reducible refine wpD_g (fun K hK => ?_)
          go_simp
          refine ⟨Grew.of_alloc _, hK _ _ ?_⟩
          clear hK K
          have hal : Below w6.heap.size w6 (w6.alloc (Obj.cells #[.int .i64 X, .int .i64 Y, .int .i64 (tt : Int)] 38)) := bl_al (bl_refl _) _
          have hs4 := hbw1.out.size
          have hs5 := jb.size
          have hO4 := (hO1.out.below jb).below hal
          have hcs4 := ownsRow_below (ownsRow_below hcs1.out jb) hal
          have bP4 := (bP1.out.below jb).below hal
          refine wpD_append_atN rfl _ _ 24 rfl w3.heap.size 38 i0 (.agg #[.int .i64 0, .int .i64 0, .int .i64 0]) 3 24 Try.underlying24 hi hz0 hz1 hz2 rfl (by decide) (.slice A1 R c1) R (plCells (upN k xs m ++ cellT k e j)) (by go_simp) hO4.own ⟨w6.heap.size, 0, none⟩ 1 1 [.int .i64 X, .int .i64 Y, .int .i64 (tt : Int)] (by go_simp) rfl (cell_three_newF _ _ _ _ _) (fun x hx => by simp at hx; rcases hx with rfl | rfl | rfl <;> rfl) (by unfold maxLen; omega) (by omega) (by simp; omega) ?_
          intro v9 w9 hown9 hgrow9 hat9
          obtain ⟨A9, c9, rfl⟩ := ownsRow_form hown9
          have hs9 := hal.size
          have hs6 := lx
          have bw9 := Lib.hid (((hbw1.out.trans (jb.mono hs4)).trans (hal.mono (show w3.heap.size ≤ w6.heap.size by omega))).grown hgrow9 (by omega) (fun g e => (hO4.own.lt g e).1))
          have bP9 := Lib.hid (bP4.grown hgrow9 hne.out)
          have hne9 : Hid ((Value.slice A9 (R + 1) c9).ownBlock ≠ some b9) := Lib.hid (fun e => by
            rcases hat9 with h2 | h2
            · exact hne.out (h2.symm.trans e)
            · rw [h2] at e; injection e with e; omega)
          have hcs9 := Lib.hid (own_keptF hcs4 hgrow9 (fun g e => own_ne_ownF hcs4 hO4.own (by decide) e))
          have hO9 := Lib.hid (RowPl.snoc hO4.len hown9)
          clear hown9 hgrow9 hat9 hs9 hs4 hs5 hs6 hal hO4 jb hO1 hbw1 bP1 bP4 hcs4 hcs1 hne x2 lx bC1
          repeat (first | ((with_reducible refine wpD_p (fun K hK => ?_)); go_simp; refine hK _ ?_; clear hK K) | ((with_reducible refine wpD_q (fun K hK => ?_)); go_simp; (first | refine hK _ ?_ | (go_bits; refine hK _ ?_) | (go_bits; go_simp; refine hK _ ?_)); clear hK K))
          with_reducible refine wpD_nil ?_
          go_wp2
          go_roundg (q - (j + 1))
          case measure => omega
          case rel => exact ⟨j + 1, R + 1, A9, c9, by omega, by omega, by go_num, rfl, Lib.hid (by
            rw [cellT_succ, ← List.append_assoc, hcxH.out, hcyH.out, hXH.out, hYH.out, hetH.out, hqH.out, show (m : Int) * (q : Int) + (j : Int) = (tt : Int) by rw [← Int.natCast_mul, ha2q.out, ← httH.out]; rfl]
            exact hO9.out), bw9, bP9, hne9, hcs9⟩
        · obtain rfl : j = q := by omega
          have hjI : ¬ (j : Int) < (j : Int) := by omega
          go_wp2
          go_roundg (n - (m + 1))
          case measure => omega
          case rel => exact ⟨m + 1, R, by omega, by omega, by go_num, Lib.hid (by rw [upN_succ heH.out, hqH.out]; exact hO.out), hbw⟩
    · obtain rfl : m = n := by omega
      have hmI : ¬ (m : Int) < (m : Int) := by omega
      have hT := Lib.hid (show upN k xs m = upT k xs by unfold upT; rw [hlH.out])
      have hMN : M = N := by
        have h5 := hO.out.len
        rw [upN_len, hqH.out] at h5
        rw [hNn.out, ← h5]
      subst hMN
      have hOw := hO.out
      rw [hT.out] at hOw
      have hRd := Lib.hid hOw.rd
      have hM0 : 0 < M := by rw [hNn.out]; exact Nat.mul_pos (by omega) (by omega)
      clear hOw hO
      go_wp2_with fail
      refine (assemblyOf_any A1 M c1 (upT k xs) _ hRd.out (by omega) hM0 hap.out).mono ?_
      rw [hZ'.out]
      rintro _ w8 ⟨B, cb, rfl, hO8, hb8⟩
      rw [hNH.out] at hO8 ⊢
      have bR8 := Lib.hid ((bR.out.below hbw.out).below hb8)
      have hw3 := hbw3.out.size
      have hbw8 := Lib.hid (hbw3.out.trans ((hbw.out.trans (hb8.mono hszl)).mono hw3))
      have hal : Below w8.heap.size w8 (w8.alloc (Obj.cells #[.slice B M cb] 26)) := bl_al (bl_refl _) _
      have hlRr : w.heap.size + 1 < wr.heap.size := by omega
      have hO9 := Lib.hid (ownsRow_below hO8 hal)
      have bR9 := Lib.hid (bR8.out.below hal)
      have hbw9 := Lib.hid (hbw8.out.trans (hal.mono hbw8.out.size))
      obtain ⟨b12, hb12⟩ : ∃ b, w8.heap.size = b := ⟨_, rfl⟩
      have bN0 := Bx.made w8 [.slice B M cb] 26
      obtain ⟨wa, hwa⟩ : ∃ z, z = w8.alloc (Obj.cells #[.slice B M cb] 26) := ⟨_, rfl⟩
      simp only [List.toArray] at bN0
      rw [← hwa] at bN0 hO9 bR9 hbw9
      rw [hb12] at bN0
      have bN := Lib.hid bN0
      have hM90 : M ≤ 500 := by
        have := form_len hfZ.out
        rw [hNH.out] at this
        exact this
      clear hO8 hb8 bR8 hbw8 hal bN0 hRd
      go_wp2_with fail
      rw [← hwa]
      try simp only [hb12]
      clear hwa hb12
      have x0 := bN.out.cell 0 _ rfl
      have lx := bN.out.lt
      go_wp2_with fail
      refine (hasForm_at (RowPl.rd ⟨hO9.out, hNH.out⟩) (by omega) hfZ.out).mono ?_
      rintro _ w10 ⟨rfl, hb10⟩
      have hO10 := Lib.hid (ownsRow_below hO9.out hb10)
      have bR10 := Lib.hid (bR9.out.below hb10)
      have bN10 := Lib.hid (bN.out.below hb10)
      have hbw10 := Lib.hid (hbw9.out.trans (hb10.mono hbw9.out.size))
      clear hb10 hO9 bR9 bN hbw9 x0 lx
      have x0 := bN10.out.cell 0 _ rfl
      have lx := bN10.out.lt
      have z0 := bR10.out.cell 0 _ rfl
      have zf := bR10.out.froz 0
      have lz := bR10.out.lt
      go_wp2
      refine bodyPost_ret (v := .tuple #[.agg #[.slice B M cb], .int .i64 0]) (by simp only [results, Try.results16]; go_simp) rfl ?_
      exact ⟨B, cb, rfl, RowPl.rd ⟨ownsRow_setCell_below hO10.out (a := ⟨w.heap.size + 1, 0, none⟩) hlRr _, hNH.out⟩, hbw10.out.setCell (p := ⟨w.heap.size + 1, 0, none⟩) (by simp only; omega) _⟩
end Go.Proofs.Ytpnahobgmemdjaa
/- Plain: a row of points, cut in two: its cells, and the step of a region that draws which appends to a row of one's own. -/



namespace Go.Proofs.Ytpnahobgmemdjaa
open Go.RowKit
theorem ptCells_append (l m : List Pt) : ptCells (l ++ m) = ptCells l ++ ptCells m := by
  induction l with
  | nil => rfl
  | cons a l ih => simp [ptCells, ih]
theorem ptCells_take (l : List Pt) (j : Nat) : ptCells (l.take j) = (ptCells l).take (j * 2) := by
  induction l generalizing j with
  | nil => simp [ptCells]
  | cons a l ih =>
    cases j with
    | zero => simp [ptCells]
    | succ j => rw [show (j + 1) * 2 = j * 2 + 1 + 1 by omega]; simp [ptCells, ih]
theorem ptCells_drop (l : List Pt) (j : Nat) : ptCells (l.drop j) = (ptCells l).drop (j * 2) := by
  induction l generalizing j with
  | nil => simp [ptCells]
  | cons a l ih =>
    cases j with
    | zero => simp [ptCells]
    | succ j => rw [show (j + 1) * 2 = j * 2 + 1 + 1 by omega]; simp [ptCells, ih]
theorem own_cell {w : World} {base N c g : Nat} {ps : List Pt} (h : w.ownsRow base 34 2 (.slice (some ⟨g, 0, none⟩) N c) N (ptCells ps)) {i : Nat} {u : Value} (hu : (ptCells ps)[i]? = some u) : w.cell? ⟨g, i, none⟩ = some u := by
  obtain ⟨h1, h2⟩ := h
  rcases h2 with ⟨h2, _⟩ | ⟨g', cap, cur, hv, _, hh, _, _, _, ht⟩
  · cases h2
  · injection hv with e1 e2 e3
    injection e1 with e1
    injection e1 with e1
    subst e1
    rw [cell_of_row w _ _ _ _ _ hh]
    rw [← ht] at hu
    rw [List.getElem?_take] at hu
    split at hu
    · simpa using hu
    · cases hu
theorem addr_add0 (g i : Nat) : ((⟨g, 0, none⟩ : Addr).add i) = ⟨g, i, none⟩ := by rw [Addr.add_lit, Nat.zero_add]
theorem news_take {w : World} {base N c g : Nat} {ps : List Pt} (h : w.ownsRow base 34 2 (.slice (some ⟨g, 0, none⟩) N c) N (ptCells ps)) (j : Nat) : ∀ i u, (ptCells (ps.take j))[i]? = some u → w.cell? ((⟨g, 0, none⟩ : Addr).add i) = some u := by
  intro i u hu
  rw [addr_add0]
  rw [ptCells_take, List.getElem?_take] at hu
  split at hu
  · exact own_cell h hu
  · cases hu
theorem news_drop (base N c g : Nat) (ps : List Pt) (hl : ps.length = N) (hN : N ≤ c) (j : Nat) : ∃ A : Addr, (if c = j then some (⟨g, 0, none⟩ : Addr) else some ⟨g, j * 2, none⟩) = some A ∧ Hid (∀ w : World, w.ownsRow base 34 2 (.slice (some ⟨g, 0, none⟩) N c) N (ptCells ps) → ∀ i u, (ptCells (ps.drop j))[i]? = some u → w.cell? (A.add i) = some u) := by
  by_cases hc : c = j
  · refine ⟨_, if_pos hc, Lib.hid (fun w h i u hu => ?_)⟩
    rw [List.drop_eq_nil_of_le (by omega)] at hu
    simp [ptCells] at hu
  · refine ⟨_, if_neg hc, Lib.hid (fun w h i u hu => ?_)⟩
    rw [Addr.add_lit]
    rw [ptCells_drop, List.getElem?_drop] at hu
    exact own_cell h hu
theorem own_rebase {w : World} {base base' : Nat} {e : TypeId} {size : Nat} {v : Value} {n : Nat} {xs : List Value} (h : w.ownsRow base e size v n xs) (hb : base' ≤ base) : w.ownsRow base' e size v n xs := by
  obtain ⟨h1, h2⟩ := h
  refine ⟨h1, ?_⟩
  rcases h2 with h2 | ⟨g, cap, cur, hv, hg, r⟩
  · exact .inl h2
  · exact .inr ⟨g, cap, cur, hv, Nat.le_trans hb hg, r⟩
theorem Bx.news {W : World} {b : Nat} {x y : Int} (h : Bx W b [.int .i64 x, .int .i64 y]) : ∀ i u, (ptCells [⟨x, y⟩])[i]? = some u → W.cell? ((⟨b, 0, none⟩ : Addr).add i) = some u := by
  intro i u hu
  rw [addr_add0]
  exact h.cell i u hu
theorem Bx.drew {W : World} {b : Nat} {l : List Value} (h : Bx W b l) : Bx W.drew b l := ⟨h.lt, h.cell, h.froz⟩
theorem own_emptyC (wb : World) (o : Obj) : ((wb.alloc o).alloc (Obj.cells #[] 34)).drew.ownsRow wb.heap.size 34 2 (.slice (some ⟨wb.heap.size + 1, 0, none⟩) 0 0) 0 (ptCells []) := by
  refine ⟨rfl, .inr ⟨wb.heap.size + 1, 0, #[], rfl, Nat.le_succ _, ?_, Nat.le_refl _, by unfold maxLen; omega, rfl, rfl⟩⟩
  have h := heap_alloc_new (wb.alloc o) (Obj.cells #[] 34)
  simp only [World.size_alloc] at h
  exact h
theorem own_empty (wb : World) : (wb.alloc (Obj.cells #[] 34)).drew.ownsRow wb.heap.size 34 2 (.slice (some ⟨wb.heap.size, 0, none⟩) 0 0) 0 (ptCells []) := by
  refine ⟨rfl, .inr ⟨wb.heap.size, 0, #[], rfl, Nat.le_refl _, ?_, Nat.le_refl _, by unfold maxLen; omega, rfl, rfl⟩⟩
  exact heap_alloc_new wb (Obj.cells #[] 34)
theorem own_emptyB (wb : World) (o : Obj) : ((wb.alloc (Obj.cells #[] 34)).alloc o).drew.ownsRow wb.heap.size 34 2 (.slice (some ⟨wb.heap.size, 0, none⟩) 0 0) 0 (ptCells []) := by
  have h := own_empty wb
  have h2 : (wb.alloc (Obj.cells #[] 34)).ownsRow wb.heap.size 34 2 (.slice (some ⟨wb.heap.size, 0, none⟩) 0 0) 0 (ptCells []) := h
  exact ownsRow_below h2 (bl_dr (bl_al (bl_refl _) o))
section
variable {ops : Array Oper} {a : Act} {w : World}
theorem step_pts {o : Oper} {K : Act → World → Prop} {Q : Exit → Act → World → Prop} {E : Prop} (hgd : o.guard = none) (s x : Operand)
    (ho : o.op = .call { callee := .builtin .append, args := #[s, x], argTypes := #[42, 42] })
    (wb : World) (ps qs : List Pt) (gv cv : Nat) {n m nm : Nat} (hnm : n + m = nm)
    (hs : a.eval s = .slice (some ⟨gv, 0, none⟩) n cv) (hb : Below wb.heap.size wb w) (hown : w.ownsRow wb.heap.size 34 2 (.slice (some ⟨gv, 0, none⟩) n cv) n (ptCells ps))
    (ad : Addr) (c : Nat) (hx : a.eval x = .slice (some ad) m c) (hl : qs.length = m) (hnews : ∀ i u, (ptCells qs)[i]? = some u → w.cell? (ad.add i) = some u) (hle : nm ≤ 100)
    (h : ∀ g cap w', Hid (w'.ownsRow wb.heap.size 34 2 (.slice (some ⟨g, 0, none⟩) nm cap) nm (ptCells (ps ++ qs))) → Hid (Below wb.heap.size wb w') → Hid (w.grownBy w' (some gv)) → Hid (g = gv ∨ g = w.heap.size) → K (a.put o.dst (.slice (some ⟨g, 0, none⟩) nm cap)) w') :
    if Region.wanted o (yielded ops a.tmps) = true then Oper.wp Try.prog o a w K Q else E := by
  obtain ⟨i0, hi, hz0, hz1, hz2⟩ := info_parts infoPtQ
  have hw : Region.wanted o (yielded ops a.tmps) = true := by simp [Region.wanted, hgd]
  rw [if_pos hw]
  subst hnm
  have hgv : wb.heap.size ≤ gv := by
    rcases hown.2 with ⟨h2, _⟩ | ⟨g', cap, cur, hv, hg, _⟩
    · cases h2
    · injection hv with e1 e2 e3
      injection e1 with e1
      injection e1 with e1
      rw [e1]; exact hg
  obtain ⟨v', w', hr, h2, h3, h4, h5⟩ := run_append_own_at (P := Try.prog) (w := w) wb.heap.size 42 o.type 34 i0 _ 2 16 Try.underlying42 hi hz0 hz1 hz2 rfl (by decide) (.slice (some ⟨gv, 0, none⟩) n cv) n (ptCells ps) hown ad m c (ptCells qs) (by rw [ptCells_len, hl]) hnews (ptCells_one qs) (by unfold maxLen; omega) (by omega) hb.size
  have hform : ∃ g cap, v' = .slice (some ⟨g, 0, none⟩) (n + m) cap := by
    rcases h2.2 with ⟨hv, _⟩ | ⟨g', cap, cur, hv, _⟩
    · have h6 := (h4.1 hv).1
      cases h6
    · exact ⟨g', cap, hv⟩
  obtain ⟨g, cap, rfl⟩ := hform
  unfold Oper.wp execOp
  simp only [ho, resolve, invoke, builtin, Sem.run_bind, Sem.run_pure, Result.andThen_ok, List.map_toArray, List.map_cons, List.map_nil, hs, hx, hr]
  refine h g cap w' (Lib.hid (by rw [ptCells_append]; exact h2)) (Lib.hid (hb.grown h3 hb.size (fun q e => by have e1 : some gv = some q := e; injection e1 with e1; omega))) (Lib.hid h3) (Lib.hid ?_)
  rcases h5 with h5 | h5
  · left; injection h5
  · right; injection h5
end
end Go.Proofs.Ytpnahobgmemdjaa
