/- Walks: two assemblies are the same; the tile at a point; the join of two assemblies that are apart. -/
import Derived.Test.YtpnahobgmemdjaaKP
import Derived.Test.YtpnahobgmemdjaaKX
import Derived.Test.YtpnahobgmemdjaaW10
import Derived.Test.YtpnahobgmemdjaaKV
import Derived.Test.YtpnahobgmemdjaaKG
import Derived.Test.YtpnahobgmemdjaaDr1
namespace Go.Proofs.Ytpnahobgmemdjaa
open Go.RowKit Go.Shelf
set_option linter.unusedSimpArgs false
set_option linter.unusedVariables false
attribute [local go_sem] BelowBy.cell BelowBy.cell_drew stillUpon givesUpon

theorem l00MaxB_any (a b : Int) (w : World) : Calls Try.prog 42 #[.int .i64 a, .int .i64 b] w fun e w' => e = .returned (.int .i64 (max a b)) ∧ w = w' := by
  go_enter Try.func42, Try.ntmps42
  go_wp2
  · rename_i h
    go_ret
    exact ⟨ret_int (by omega), rfl⟩
  · go_ret
    exact ⟨ret_int (by omega), rfl⟩
set_option maxRecDepth 100000 in
set_option maxHeartbeats 1000000 in
theorem l03Same_any {pa pb : Nat} {xs : List Pl} {w : World} (ha : AsmAt w pa 0 xs) (hb : AsmAt w pb 0 xs) (hn : xs.length ≤ 1000000) :
    Calls Try.prog 36 #[.pointer (some ⟨pa, 0, none⟩), .pointer (some ⟨pb, 0, none⟩)] w fun e w' => e = .returned (.bool true) ∧ Below w.heap.size w w' := by
  obtain ⟨la, A, n, c, a1, a2⟩ := ha
  obtain ⟨lb, B, n2, c2, b1, b2⟩ := hb
  have hl := a2.len
  obtain rfl : n = n2 := by have := b2.len; omega
  have hH := Lib.hid a2
  have hH2 := Lib.hid b2
  have hlH := Lib.hid hl
  have hn6 : n ≤ 1000000 := by omega
  clear a2 b2 hl hn
  go_enter Try.func36, Try.ntmps36
  go_wp2
  refine wp_region_ord [(0, .q), (1, .q), (2, .q), (3, .q), (4, .q), (5, .q), (6, .q), (7, .q), (8, .q), (9, .q), (10, .q)] (by kernel_rfl) (by kernel_rfl) ?_
  simp only [pick, List.filterMap_cons, List.filterMap_nil, List.getElem?_toArray, List.getElem?_cons_zero, List.getElem?_cons_succ, Option.map_some]
  repeat (first
    | ((with_reducible refine wpD_p (fun K hK => ?_)); go_simp; refine hK _ ?_; clear hK K)
    | ((with_reducible refine wpD_q (fun K hK => ?_)); go_simp; (first | refine hK _ ?_ | (go_bits; refine hK _ ?_) | (go_bits; go_simp; refine hK _ ?_)); clear hK K)
    | ((with_reducible refine wpD_g (fun K hK => ?_)); go_simp; refine hK _ _ ?_; clear hK K)
    | ((with_reducible refine wpD_g (fun K hK => ?_)); go_simp; refine ⟨Grew.of_alloc _, hK _ _ ?_⟩; clear hK K))
  with_reducible refine wpD_nil ?_
  go_wp2
  go_loopg [5] n (fun g i wr => ∃ j : Nat, j + g = n ∧ i = .int .i64 (j : Int) ∧ Hid (Below w.heap.size w wr))
  case atStart => exact ⟨0, by omega, rfl, Lib.hid (bl_dr (bl_refl _))⟩
  case round =>
    obtain ⟨j, hj, rfl, hbw⟩ := hrel
    have hszl := hbw.out.size
    have a1 := (hbw.out.cell (p := ⟨pa, 0, none⟩) la).trans a1
    have b1 := (hbw.out.cell (p := ⟨pb, 0, none⟩) lb).trans b1
    have la := Nat.lt_of_lt_of_le la hszl
    have lb := Nat.lt_of_lt_of_le lb hszl
    by_cases hjn : j < n
    · have h := hH.out.below RPl.stable hbw.out
      have h2 := hH2.out.below RPl.stable hbw.out
      obtain ⟨e, he⟩ := h.get hjn
      obtain ⟨bf, of_, hFe, hbf, hcf⟩ := h.ptr (by omega)
      obtain ⟨bg, og, hGe, hbg, hcg⟩ := h2.ptr (by omega)
      obtain ⟨d0, d1, d2⟩ := hcf j e he
      obtain ⟨f0, f1, f2⟩ := hcg j e he
      subst hFe
      subst hGe
      have hjI : (j : Int) < (n : Int) := by omega
      have hj0 : (0 : Int) ≤ (j : Int) := by omega
      clear hcf hcg h h2
      go_wp2
      refine wp_region_ord [(0, .q), (1, .q), (2, .q), (3, .q), (4, .q), (5, .q), (6, .q), (7, .q), (8, .q), (9, .q), (10, .q), (11, .q), (12, .q), (13, .q), (14, .q)] (by kernel_rfl) (by kernel_rfl) ?_
      simp only [pick, List.filterMap_cons, List.filterMap_nil, List.getElem?_toArray, List.getElem?_cons_zero, List.getElem?_cons_succ, Option.map_some]
      repeat (first
        | ((with_reducible refine wpD_p (fun K hK => ?_)); go_simp; refine hK _ ?_; clear hK K)
        | ((with_reducible refine wpD_q (fun K hK => ?_)); go_simp; (first | refine hK _ ?_ | (go_bits; refine hK _ ?_) | (go_bits; go_simp; refine hK _ ?_)); clear hK K)
        | ((with_reducible refine wpD_g (fun K hK => ?_)); go_simp; refine hK _ _ ?_; clear hK K)
        | ((with_reducible refine wpD_g (fun K hK => ?_)); go_simp; refine ⟨Grew.of_alloc _, hK _ _ ?_⟩; clear hK K))
      with_reducible refine wpD_nil ?_
      go_wp2
      go_roundg (n - (j + 1))
      case measure => omega
      case rel => exact ⟨j + 1, by omega, by go_num, Lib.hid (bl_dr hbw.out)⟩
    · obtain rfl : j = n := by omega
      have hjE : ¬ (j : Int) < (j : Int) := by omega
      go_wp2
      go_ret
      exact ⟨rfl, hbw.out⟩
theorem SameAssembly_any {A B : Option Addr} {n n2 c c2 : Nat} {xs : List Pl} {w : World} (h : RdSl 3 RPl w A n xs) (h2 : RdSl 3 RPl w B n2 xs) (hn : xs.length ≤ 1000000) :
    Calls Try.prog 9 #[.agg #[.slice A n c], .agg #[.slice B n2 c2]] w fun e w' => e = .returned (.bool true) ∧ Below w.heap.size w w' := by
  have hH := Lib.hid h
  have hH2 := Lib.hid h2
  clear h h2
  go_enter Try.func9, Try.ntmps9
  go_wp2_with fail
  have jb : Below w.heap.size w ((w.alloc (Obj.cells #[.slice A n c] 26)).alloc (Obj.cells #[.slice B n2 c2] 26)) := bl_al (bl_al (bl_refl _) _) _
  refine (l03Same_any (pa := w.heap.size) (pb := w.heap.size + 1) (xs := xs) ⟨by simp; omega, A, n, c, by go_simp, hH.out.below RPl.stable jb⟩ ⟨by simp, B, n2, c2, by go_simp, hH2.out.below RPl.stable jb⟩ hn).mono ?_
  rintro e w1 ⟨rfl, hb1⟩
  have hbH := Lib.hid (jb.trans (hb1.mono (by simp; omega)))
  clear hb1 jb
  go_wp2
  go_ret
  exact ⟨rfl, hbH.out⟩
set_option maxRecDepth 100000 in
set_option maxHeartbeats 1000000 in
theorem TileAt_any {A : Option Addr} {n c : Nat} {xs : List Pl} {x y : Int} {v : Bool} {w : World} (h : RdSl 3 RPl w A n xs) (hf : hasFormB xs = true) (hv : decide (0 ≤ atI xs x y) = v) :
    Calls Try.prog 12 #[.agg #[.slice A n c], .agg #[.int .i64 x, .int .i64 y]] w fun e w' => (∃ k : Int, e = .returned (.tuple #[.int .i64 k, .bool v])) ∧ Below w.heap.size w w' := by
  have hH := Lib.hid h
  have hl5 := form_len hf
  have hVH := Lib.hid (form_valid hf)
  have hfH := Lib.hid hf
  obtain ⟨r, hr⟩ : ∃ r, atI xs x y = r := ⟨_, rfl⟩
  rw [hr] at hv
  have hrH := Lib.hid hr
  clear h hf hr
  go_enter Try.func12, Try.ntmps12
  go_wp2_with fail
  have jb : Below w.heap.size w ((w.alloc (Obj.cells #[.slice A n c] 26)).alloc (Obj.cells #[.int .i64 x, .int .i64 y] 34)) := bl_al (bl_al (bl_refl _) _) _
  have hA : AsmAt ((w.alloc (Obj.cells #[.slice A n c] 26)).alloc (Obj.cells #[.int .i64 x, .int .i64 y] 34)) w.heap.size 0 xs := ⟨by simp; omega, A, n, c, by go_simp, hH.out.below RPl.stable jb⟩
  refine (l03Form_any w.heap.size xs _ hA (by omega)).mono ?_
  rw [hfH.out]
  rintro e w1 ⟨rfl, hb1⟩
  have k0 := (hb1.cell (p := ⟨w.heap.size + 1, 0, none⟩) (by simp)).trans (show _ = some (.int .i64 x) by go_simp)
  have k1 := (hb1.cell (p := ⟨w.heap.size + 1, 1, none⟩) (by simp)).trans (show _ = some (.int .i64 y) by go_simp)
  have k2 : w.heap.size + 1 < w1.heap.size := by have := hb1.size; simp at this; omega
  have hA1 := Lib.hid (AsmAt.below hA hb1)
  have hbH := Lib.hid (jb.trans (hb1.mono (by simp; omega)))
  clear hb1 jb hA
  go_wp2_with fail
  refine (l03At_any w.heap.size [] noTiles xs x y r _ hA1.out hVH.out hrH.out).mono ?_
  rintro e w2 ⟨rfl, hb2⟩
  have hbH2 := Lib.hid (hbH.out.trans (hb2.mono (by omega)))
  clear hb2 hbH hA1
  go_wp2_with fail
  refine (l00MaxB_any r 0 _).mono ?_
  rintro e _ ⟨rfl, rfl⟩
  cases v
  · have hn0 : ¬ (0 : Int) ≤ r := of_decide_eq_false hv
    clear hv
    go_wp2
    refine bodyPost_ret (v := .tuple #[.int .i64 (max r 0), .bool false]) (by simp only [results, Try.results12]; go_simp) rfl ?_
    exact ⟨⟨_, rfl⟩, hbH2.out⟩
  · have hn0 : (0 : Int) ≤ r := of_decide_eq_true hv
    clear hv
    go_wp2
    refine bodyPost_ret (v := .tuple #[.int .i64 (max r 0), .bool true]) (by simp only [results, Try.results12]; go_simp) rfl ?_
    exact ⟨⟨_, rfl⟩, hbH2.out⟩
def JoinR (w : World) (Z : List Pl) (N : Nat) (e : Ending) (w' : World) : Prop :=
  ∃ B c', e = .returned (.tuple #[.agg #[.slice B N c'], .int .i64 0]) ∧ w'.ownsRow w.heap.size 38 3 (.slice B N c') N (plCells Z) ∧ Below w.heap.size w w'
set_option maxRecDepth 100000 in
set_option maxHeartbeats 2000000 in
theorem JoinAssemblies_any {A C : Option Addr} {n ca m cb N : Nat} {xs ms Z : List Pl} {w : World} (hA : RdSl 3 RPl w A n xs) (hC : RdSl 3 RPl w C m ms) (hf : hasFormB xs = true) (hf2 : hasFormB ms = true) (h2 : Two [] noTiles xs ms) (h0 : 0 < m) (hZ : sortPl (xs ++ ms) = Z) (hN : Z.length = N) (hl : N ≤ 500) :
    Calls Try.prog 10 #[.agg #[.slice A n ca], .agg #[.slice C m cb]] w (JoinR w Z N) := by
  have hlA := hA.len
  have hlC := hC.len
  have hn5 := form_len hf
  have hm5 := form_len hf2
  have hAH := Lib.hid hA
  have hCH := Lib.hid hC
  have hfH := Lib.hid hf
  have hfH2 := Lib.hid hf2
  have h2H := Lib.hid h2
  have hZH := Lib.hid hZ
  have hNH := Lib.hid hN
  clear hA hC hf hf2 h2 hZ hN
  go_enter Try.func10, Try.ntmps10
  go_wp2_with fail
  have bA := Lib.hid (((Bx.made w [.slice A n ca] 26).below (bl_al (bl_refl _) (Obj.cells #[.slice C m cb] 26))).below (bl_al (bl_refl _) (Obj.cells #[.slice none 0 0] 26)))
  have bC : Hid (Bx (((w.alloc (Obj.cells #[.slice A n ca] 26)).alloc (Obj.cells #[.slice C m cb] 26)).alloc (Obj.cells #[.slice none 0 0] 26)) (w.heap.size + 1) [.slice C m cb]) := Lib.hid (by
    have := (Bx.made (w.alloc (Obj.cells #[.slice A n ca] 26)) [.slice C m cb] 26).below (bl_al (bl_refl _) (Obj.cells #[.slice none 0 0] 26))
    rw [World.size_alloc] at this
    exact this)
  have bR : Hid (Bx (((w.alloc (Obj.cells #[.slice A n ca] 26)).alloc (Obj.cells #[.slice C m cb] 26)).alloc (Obj.cells #[.slice none 0 0] 26)) (w.heap.size + 1 + 1) [.slice none 0 0]) := Lib.hid (by
    have := Bx.made ((w.alloc (Obj.cells #[.slice A n ca] 26)).alloc (Obj.cells #[.slice C m cb] 26)) [.slice none 0 0] 26
    rw [World.size_alloc, World.size_alloc] at this
    exact this)
  have hbw : Hid (Below w.heap.size w (((w.alloc (Obj.cells #[.slice A n ca] 26)).alloc (Obj.cells #[.slice C m cb] 26)).alloc (Obj.cells #[.slice none 0 0] 26))) := Lib.hid (bl_al (bl_al (bl_al (bl_refl _) _) _) _)
  refine (hasForm_at (hAH.out.below RPl.stable hbw.out) (by omega) hfH.out).mono ?_
  rintro e w1 ⟨rfl, hb⟩
  replace bA := Lib.hid (bA.out.below hb)
  replace bC := Lib.hid (bC.out.below hb)
  replace bR := Lib.hid (bR.out.below hb)
  replace hbw := Lib.hid (hbw.out.trans (hb.mono hbw.out.size))
  clear hb
  have y0 := bA.out.cell 0 _ rfl
  have y1 := bC.out.cell 0 _ rfl
  have y2 := bR.out.cell 0 _ rfl
  have f2 := bR.out.froz 0
  have l0 := bA.out.lt
  have l1 := bC.out.lt
  have l2 := bR.out.lt
  go_wp2_with fail
  refine (hasForm_at (hCH.out.below RPl.stable hbw.out) (by omega) hfH2.out).mono ?_
  rintro e w2 ⟨rfl, hb⟩
  replace bA := Lib.hid (bA.out.below hb)
  replace bC := Lib.hid (bC.out.below hb)
  replace bR := Lib.hid (bR.out.below hb)
  replace hbw := Lib.hid (hbw.out.trans (hb.mono hbw.out.size))
  clear hb y0 y1 y2 f2 l0 l1 l2
  have y0 := bA.out.cell 0 _ rfl
  have y1 := bC.out.cell 0 _ rfl
  have y2 := bR.out.cell 0 _ rfl
  have f2 := bR.out.froz 0
  have l0 := bA.out.lt
  have l1 := bC.out.lt
  have l2 := bR.out.lt
  go_wp2_with fail
  refine (joined_any A C n ca m cb [] noTiles xs ms _ (hAH.out.below RPl.stable hbw.out) (hCH.out.below RPl.stable hbw.out) h2H.out (by omega) h0).mono ?_
  rintro e w3 ⟨B, c', rfl, hown, hb⟩
  rw [hZH.out, hNH.out] at hown ⊢
  replace bA := Lib.hid (bA.out.below hb)
  replace bC := Lib.hid (bC.out.below hb)
  replace bR := Lib.hid (bR.out.below hb)
  have hsz2 := hbw.out.size
  have hl22 := l2
  replace hbw := Lib.hid (hbw.out.trans (hb.mono hbw.out.size))
  have hownH := Lib.hid hown
  have hlo := hbw.out.size
  clear hb hown y0 y1 y2 f2 l0 l1 l2
  have y0 := bA.out.cell 0 _ rfl
  have y1 := bC.out.cell 0 _ rfl
  have y2 := bR.out.cell 0 _ rfl
  have f2 := bR.out.froz 0
  have l0 := bA.out.lt
  have l1 := bC.out.lt
  have l2 := bR.out.lt
  have hNI : ¬ (500 : Int) < (N : Int) := by omega
  go_wp2
  refine bodyPost_ret (v := .tuple #[.agg #[.slice B N c'], .int .i64 0]) (by simp only [results, Try.results10]; go_simp) rfl ?_
  exact ⟨B, c', rfl, ownsRow_baseQ ((ownsRow_setCell_below hownH.out (a := ⟨w.heap.size + 1 + 1, 0, none⟩) hl22 _).alloc _) hsz2, (hbw.out.setCell (p := ⟨w.heap.size + 1 + 1, 0, none⟩) (by simp only; omega) _).alloc (by simp; omega) _⟩
end Go.Proofs.Ytpnahobgmemdjaa
