/- Walks: the network of some bonds is made. -/
import Derived.Test.YthieodccakphiaaGreatF4
import Derived.Test.YthieodccakphiaaGreatHTo
namespace Go.Proofs.YthieodccakphiaaGreat
open Go.RowKit Go.Shelf
set_option linter.unusedSimpArgs false
set_option linter.unusedVariables false
attribute [local go_sem] BelowBy.cell BelowBy.cell_drew stillUpon givesUpon BelowBy.cell_drew2 BelowBy.cell_drew3

theorem infoIs : (Tryz.prog.info? 103).map (fun i => (i.zero, i.size, i.bytes)) = some (some (.slice none 0 0), 1, 24) := by kernel_rfl
def NetRes (w : World) (n : Nat) (R F : Nat → Nat → Int) (e : Ending) (w' : World) : Prop := ∃ p vR vF uR uF, e = .returned (.pointer (some ⟨p, 0, none⟩)) ∧ Net w' w.heap.size p n R F vR vF uR uF ∧ Below w.heap.size w w'
theorem roomM_bound {n : Nat} {bs : List Bd} (hb : BondsOk n bs) (m u v : Nat) : 0 ≤ roomM bs m u v ∧ roomM bs m u v ≤ 4 * (m : Int) := by
  induction m with
  | zero => simp [roomM]
  | succ m ih =>
    simp only [roomM]
    cases he : bs[m]? with
    | none => simp; omega
    | some e =>
      have h2 := hb.s m e he
      dsimp only
      by_cases hj : jo e u v = true
      · rw [if_pos hj]; omega
      · rw [if_neg hj]; omega
theorem roomM_succ {n : Nat} {bs : List Bd} (hb : BondsOk n bs) {m : Nat} {e : Bd} (he : bs[m]? = some e) : (fun a b => if a = e.b ∧ b = e.a then roomM bs m e.b e.a + e.s else if a = e.a ∧ b = e.b then roomM bs m e.a e.b + e.s else roomM bs m a b) = roomM bs (m + 1) := by
  funext a b
  have hne := hb.ne m e he
  simp only [roomM, he]
  by_cases c1 : a = e.b ∧ b = e.a
  · have hj : jo e a b = true := by simp [jo, c1]
    rw [if_pos c1, if_pos hj, c1.1, c1.2]
  · by_cases c2 : a = e.a ∧ b = e.b
    · have hj : jo e a b = true := by simp [jo, c2]
      rw [if_neg c1, if_pos c2, if_pos hj, c2.1, c2.2]
    · have hj : ¬ jo e a b = true := by
        simp only [jo, decide_eq_true_eq]
        rintro (⟨h1, h2⟩ | ⟨h1, h2⟩)
        · exact c2 ⟨h1.symm, h2.symm⟩
        · exact c1 ⟨h2.symm, h1.symm⟩
      rw [if_neg c1, if_neg c2, if_neg hj]
      omega
set_option maxRecDepth 100000 in
set_option maxHeartbeats 4000000 in
theorem networkOf_any (n : Nat) (B : Option Addr) (m c : Nat) (bs : List Bd) (w : World) (hB : RdSl 3 RBd w B m bs) (hb : BondsOk n bs) (hn : n ≤ 100000) (hm : m ≤ 1000000) :
    Calls Tryz.prog 161 #[.int .i64 (n : Int), .slice B m c] w (NetRes w n (roomM bs m) zeroM) := by
  obtain ⟨i0, hi, hz0, hz1, hz2⟩ := info_parts infoIs
  have hmk := fun W => run_makeN (P := Tryz.prog) 103 2 _ 1 8 Tryz.underlying103 infoI n (by omega) (by omega) W
  have hBH := Lib.hid hB
  have hbH := Lib.hid hb
  have hml := Lib.hid hB.len
  clear hB hb
  go_enter Tryz.func161, Tryz.ntmps161
  go_wp2
  go_loopg [11] n (fun g i wr => ∃ (k : Nat) (vR vF : Value) (uR uF : List Value), k + g = n ∧ i = .int .i64 (k : Int) ∧ Hid (NetQ wr w.heap.size w.heap.size n k k vR vF uR uF) ∧ Hid (Below w.heap.size w wr))
  case atStart =>
    refine ⟨0, .slice none 0 0, .slice none 0 0, [], [], by omega, rfl, Lib.hid ⟨by simp, Nat.le_refl _, by go_simp, by go_simp, ⟨by go_simp, by go_simp⟩, Own2.nil _ _ _ _ _, Own2.nil _ _ _ _ _, fun g h => ?_, fun h => ?_, fun h => ?_⟩, Lib.hid (bl_al (bl_refl _) _)⟩
    all_goals
      rcases h with h | ⟨k, u, hu, _⟩
      · simp [Value.ownBlock] at h
      · simp at hu
  case round =>
    obtain ⟨k, vR, vF, uR, uF, hk, rfl, hq, hbw⟩ := hrel
    by_cases hkn : k < n
    · have hsz := hbw.out.size
      have c0 := hq.out.room
      have f0 := hq.out.fr.1
      have l0 := hq.out.lt
      go_wp2
      refine wp_region_ord [(0, .p), (1, .q), (2, .q), (3, .q), (4, .q), (5, .q), (6, .g), (7, .g), (8, .b), (9, .q), (10, .q), (11, .b)] (by kernel_rfl) (by kernel_rfl) ?_
      simp only [pick, List.filterMap_cons, List.filterMap_nil, List.getElem?_toArray, List.getElem?_cons_zero, List.getElem?_cons_succ, Option.map_some]
      repeat (first | ((with_reducible refine wpD_p (fun K hK => ?_)); go_simp; refine hK _ ?_; clear hK K) | ((with_reducible refine wpD_q (fun K hK => ?_)); go_simp; (first | refine hK _ ?_ | (go_bits; refine hK _ ?_) | (go_bits; go_simp; refine hK _ ?_)); clear hK K))
      with_reducible refine wpD_g (fun K hK => ?_)
      go_simp
      refine ⟨Grew.of_alloc _, hK _ _ ?_⟩
      clear hK K
      repeat (first | ((with_reducible refine wpD_p (fun K hK => ?_)); go_simp; refine hK _ ?_; clear hK K) | ((with_reducible refine wpD_q (fun K hK => ?_)); go_simp; (first | refine hK _ ?_ | (go_bits; refine hK _ ?_) | (go_bits; go_simp; refine hK _ ?_)); clear hK K))
      with_reducible refine wpD_g (fun K hK => ?_)
      go_simp
      refine ⟨Grew.of_alloc _, hK _ _ ?_⟩
      clear hK K
      have hb1 : Below wr.heap.size wr ((wr.alloc (Obj.cells (madeCells #[Value.int .i64 0] n) 2)).alloc (Obj.cells #[Value.slice (some ⟨wr.heap.size, 0, none⟩) n n] 103)).drew := by exact bel_
      have hb1H := Lib.hid hb1
      have hx : ((wr.alloc (Obj.cells (madeCells #[Value.int .i64 0] n) 2)).alloc (Obj.cells #[Value.slice (some ⟨wr.heap.size, 0, none⟩) n n] 103)).drew.ownsRow w.heap.size 2 1 (.slice (some ⟨wr.heap.size, 0, none⟩) n n) n (rowZ zeroM n k) := by
        rw [← made_row]
        exact (World.ownsRow_lit wr (madeCells #[Value.int .i64 0] n) n hsz (by unfold maxLen; omega) (by rw [size_madeCells, Nat.mul_one])).alloc _
      have hxH := Lib.hid hx
      clear hb1 hx
      have hlR := Lib.hid (show uR.length = k by rw [hq.out.R.len, rowsZ_len])
      refine wpD_append_at rfl _ _ 133 rfl w.heap.size 103 i0 (.slice none 0 0) 1 24 Tryz.underlying133 hi hz0 hz1 hz2 rfl (by decide) vR k uR (by go_simp) ((hq.out.below hb1H.out).R.outerN hlR.out) ⟨wr.heap.size + 1, 0, none⟩ 1 1 [.slice (some ⟨wr.heap.size, 0, none⟩) n n] (by go_simp) rfl ?hnews (fun x hx => by simp at hx; subst hx; rfl) (by unfold maxLen; omega) (by omega) (by simp; omega) ?_
      case hnews =>
        have := cell_one_new (wr.alloc (Obj.cells (madeCells #[Value.int .i64 0] n) 2)) (.slice (some ⟨wr.heap.size, 0, none⟩) n n) 103
        simpa using this
      intro v1 w2 hown hgrow hat
      obtain ⟨g1, cap1, rfl⟩ := ownsRow_succ hown
      obtain ⟨hq2, l2, c2, f2⟩ := hq.out.growR (b := wr.heap.size) (c := 0) hb1H.out (Nat.le_refl _) hxH.out hown hgrow hat
      have hq2H := Lib.hid hq2
      have hbq : Below wr.heap.size wr (w2.setCell ⟨w.heap.size, 0, none⟩ (.slice (some ⟨g1, 0, none⟩) (k + 1) cap1)) ∨ True := .inr trivial
      have hbw2 : Below w.heap.size w (w2.setCell ⟨w.heap.size, 0, none⟩ (.slice (some ⟨g1, 0, none⟩) (k + 1) cap1)) := (((hbw.out.trans (hb1H.out.mono hsz)).grown hgrow (by simp; omega) (fun g e => (hq.out.R.lt g e).1)).setCell (p := ⟨w.heap.size, 0, none⟩) (Nat.le_refl _) _)
      have hbw2H := Lib.hid hbw2
      clear hown hgrow hat hq2 hbw2 hbq c0 f0
      repeat (first | ((with_reducible refine wpD_p (fun K hK => ?_)); go_simp; refine hK _ ?_; clear hK K) | ((with_reducible refine wpD_q (fun K hK => ?_)); go_simp; (first | refine hK _ ?_ | (go_bits; refine hK _ ?_) | (go_bits; go_simp; refine hK _ ?_)); clear hK K))
      with_reducible refine wpD_b (fun K hK => ?_)
      go_simp
      refine hK _ _ ?_
      clear hK K
      with_reducible refine wpD_nil ?_
      obtain ⟨W2, hW2⟩ : ∃ W2, W2 = w2.setCell ⟨w.heap.size, 0, none⟩ (.slice (some ⟨g1, 0, none⟩) (k + 1) cap1) := ⟨_, rfl⟩
      rw [← hW2] at hq2H hbw2H ⊢
      clear hW2 c2 f2 l2 hb1H hxH l0
      have hsz2 := hbw2H.out.size
      have c1 := hq2H.out.flow
      have f1 := hq2H.out.fr.2
      have l1 := hq2H.out.lt
      go_wp2
      refine wp_region_ord [(0, .p), (1, .q), (2, .q), (3, .q), (4, .q), (5, .q), (6, .g), (7, .g), (8, .b), (9, .q), (10, .q), (11, .b)] (by kernel_rfl) (by kernel_rfl) ?_
      simp only [pick, List.filterMap_cons, List.filterMap_nil, List.getElem?_toArray, List.getElem?_cons_zero, List.getElem?_cons_succ, Option.map_some]
      repeat (first | ((with_reducible refine wpD_p (fun K hK => ?_)); go_simp; refine hK _ ?_; clear hK K) | ((with_reducible refine wpD_q (fun K hK => ?_)); go_simp; (first | refine hK _ ?_ | (go_bits; refine hK _ ?_) | (go_bits; go_simp; refine hK _ ?_)); clear hK K))
      with_reducible refine wpD_g (fun K hK => ?_)
      go_simp
      refine ⟨Grew.of_alloc _, hK _ _ ?_⟩
      clear hK K
      repeat (first | ((with_reducible refine wpD_p (fun K hK => ?_)); go_simp; refine hK _ ?_; clear hK K) | ((with_reducible refine wpD_q (fun K hK => ?_)); go_simp; (first | refine hK _ ?_ | (go_bits; refine hK _ ?_) | (go_bits; go_simp; refine hK _ ?_)); clear hK K))
      with_reducible refine wpD_g (fun K hK => ?_)
      go_simp
      refine ⟨Grew.of_alloc _, hK _ _ ?_⟩
      clear hK K
      have hb1 : Below W2.heap.size W2 ((W2.alloc (Obj.cells (madeCells #[Value.int .i64 0] n) 2)).alloc (Obj.cells #[Value.slice (some ⟨W2.heap.size, 0, none⟩) n n] 103)).drew := by exact bel_
      have hb1H := Lib.hid hb1
      have hx : ((W2.alloc (Obj.cells (madeCells #[Value.int .i64 0] n) 2)).alloc (Obj.cells #[Value.slice (some ⟨W2.heap.size, 0, none⟩) n n] 103)).drew.ownsRow w.heap.size 2 1 (.slice (some ⟨W2.heap.size, 0, none⟩) n n) n (rowZ zeroM n k) := by
        rw [← made_row]
        exact (World.ownsRow_lit W2 (madeCells #[Value.int .i64 0] n) n hsz2 (by unfold maxLen; omega) (by rw [size_madeCells, Nat.mul_one])).alloc _
      have hxH := Lib.hid hx
      clear hb1 hx
      have hlF := Lib.hid (show uF.length = k by rw [hq.out.F.len, rowsZ_len])
      refine wpD_append_at rfl _ _ 133 rfl w.heap.size 103 i0 (.slice none 0 0) 1 24 Tryz.underlying133 hi hz0 hz1 hz2 rfl (by decide) vF k uF (by go_simp) ((hq2H.out.below hb1H.out).F.outerN hlF.out) ⟨W2.heap.size + 1, 0, none⟩ 1 1 [.slice (some ⟨W2.heap.size, 0, none⟩) n n] (by go_simp) rfl ?hnews2 (fun x hx => by simp at hx; subst hx; rfl) (by unfold maxLen; omega) (by omega) (by simp; omega) ?_
      case hnews2 =>
        have := cell_one_new (W2.alloc (Obj.cells (madeCells #[Value.int .i64 0] n) 2)) (.slice (some ⟨W2.heap.size, 0, none⟩) n n) 103
        simpa using this
      intro v2 w3 hown hgrow hat
      obtain ⟨g2, cap2, rfl⟩ := ownsRow_succ hown
      obtain ⟨hq3, l3, c3, f3⟩ := hq2H.out.growF (b := W2.heap.size) (c := 0) hb1H.out (Nat.le_refl _) hxH.out hown hgrow hat
      have hq3H := Lib.hid hq3
      have hbw3 : Below w.heap.size w (w3.setCell ⟨w.heap.size, 1, none⟩ (.slice (some ⟨g2, 0, none⟩) (k + 1) cap2)) := (((hbw2H.out.trans (hb1H.out.mono hsz2)).grown hgrow (by simp; omega) (fun g e => (hq2H.out.F.lt g e).1)).setCell (p := ⟨w.heap.size, 1, none⟩) (Nat.le_refl _) _)
      have hbw3H := Lib.hid hbw3
      clear hown hgrow hat hq3 hbw3 c1 f1
      repeat (first | ((with_reducible refine wpD_p (fun K hK => ?_)); go_simp; refine hK _ ?_; clear hK K) | ((with_reducible refine wpD_q (fun K hK => ?_)); go_simp; (first | refine hK _ ?_ | (go_bits; refine hK _ ?_) | (go_bits; go_simp; refine hK _ ?_)); clear hK K))
      with_reducible refine wpD_b (fun K hK => ?_)
      go_simp
      refine hK _ _ ?_
      clear hK K
      with_reducible refine wpD_nil ?_
      go_wp2
      go_roundg (n - (k + 1))
      case measure => omega
      case rel => exact ⟨k + 1, _, _, _, _, by omega, by go_num, hq3H, hbw3H⟩
    · obtain rfl : k = n := by omega
      have hnet : Hid (Net wr w.heap.size w.heap.size k (roomM bs 0) zeroM vR vF uR uF) := Lib.hid hq.out.net
      clear hmk hq
      go_wp2
      go_loopg [38] m (fun g i wr => ∃ (j : Nat), j + g = m ∧ i = .int .i64 (j : Int) ∧ Hid (Net wr w.heap.size w.heap.size k (roomM bs j) zeroM vR vF uR uF) ∧ Hid (Below w.heap.size w wr))
      case atStart => exact ⟨0, by omega, rfl, hnet, hbw⟩
      case round =>
        clear hnet hbw
        obtain ⟨j, hj, rfl, hnet, hbw⟩ := hrel
        by_cases hjm : j < m
        · have hBw := hBH.out.below RBd.stable hbw.out
          obtain ⟨bb, ob, rfl, hbb, hbc⟩ := hBw.ptr (by omega)
          obtain ⟨e, he⟩ := hBw.get hjm
          obtain ⟨e0, e1, e2⟩ := hbc j e he
          have hea := hbH.out.a j e he
          have heb := hbH.out.b j e he
          have hne := hbH.out.ne j e he
          have hs4 := hbH.out.s j e he
          have hsucc := Lib.hid (roomM_succ hbH.out he)
          obtain ⟨g, cap, g', cap', hvR, c1, l1, l2, _, hbg, hx, hown, hcols⟩ := hnet.out.R.at hea
          have c2 := hcols e.b heb
          have f2 := hown.frozenAt e.b
          have c0 := hnet.out.room
          rw [hvR] at c0
          have l0 := hnet.out.lt
          have hr1 := roomM_bound hbH.out j e.a e.b
          have hr2 := roomM_bound hbH.out j e.b e.a
          have hxH := Lib.hid hx
          have hvH := Lib.hid hvR
          have hownH := Lib.hid hown
          obtain ⟨r1, hr1E⟩ : ∃ r, roomM bs j e.a e.b = r := ⟨_, rfl⟩
          rw [hr1E] at c2 hr1
          have hr1H := Lib.hid hr1E
          have hw1 : IntKind.i64.wrap (r1 + e.s) = r1 + e.s := IntWalk.i64_in _ ⟨by omega, by omega⟩
          have hneH := Lib.hid hne
          clear hbc he hBw hcols hx hvR hown hr1E hne
          go_wp2
          refine wp_region_ord [(0, .q), (1, .q), (2, .q), (3, .q), (4, .q), (5, .q), (6, .q), (7, .q), (8, .q), (9, .q), (10, .q), (11, .q), (12, .q), (13, .q), (14, .q), (15, .q), (16, .b)] (by kernel_rfl) (by kernel_rfl) ?_
          simp only [pick, List.filterMap_cons, List.filterMap_nil, List.getElem?_toArray, List.getElem?_cons_zero, List.getElem?_cons_succ, Option.map_some]
          repeat (first | ((with_reducible refine wpD_p (fun K hK => ?_)); go_simp; refine hK _ ?_; clear hK K) | ((with_reducible refine wpD_q (fun K hK => ?_)); go_simp; (first | refine hK _ ?_ | (go_bits; refine hK _ ?_) | (go_bits; go_simp; refine hK _ ?_)); clear hK K))
          with_reducible refine wpD_b (fun K hK => ?_)
          go_simp
          refine hK _ _ ?_
          clear hK K
          with_reducible refine wpD_nil ?_
          have hg'r : g' < wr.heap.size := l2
          obtain ⟨W2, hW2⟩ : ∃ W2, W2 = ((wr.setCell ⟨g', e.b, none⟩ (.int .i64 (r1 + e.s))).alloc (Obj.cells #[.int .i64 (e.a : Int), .int .i64 (e.b : Int), .int .i64 e.s] 182)).drew := ⟨_, rfl⟩
          rw [← hW2]
          have hnet2 : Net W2 w.heap.size w.heap.size k (fun a b => if a = e.a ∧ b = e.b then r1 + e.s else roomM bs j a b) zeroM vR vF uR uF := by
            rw [hW2]
            exact (hnet.out.storeR hea hxH.out (r1 + e.s)).below (by exact bel_)
          have hbw2 : Below w.heap.size w W2 := by
            rw [hW2]
            exact ((hbw.out.setCell (p := ⟨g', e.b, none⟩) hbg _).alloc (by simp; exact hbw.out.size) _).drew
          have hW0 : W2.heap.size = wr.heap.size + 1 := by rw [hW2]; simp
          have b0 : W2.cell? ⟨wr.heap.size, 0, none⟩ = some (.int .i64 (e.a : Int)) := by rw [hW2]; go_simp
          have b1 : W2.cell? ⟨wr.heap.size, 1, none⟩ = some (.int .i64 (e.b : Int)) := by rw [hW2]; go_simp
          have b2 : W2.cell? ⟨wr.heap.size, 2, none⟩ = some (.int .i64 e.s) := by rw [hW2]; go_simp
          have lb : wr.heap.size < W2.heap.size := by omega
          have hnet2H := Lib.hid hnet2
          have hbw2H := Lib.hid hbw2
          clear hW2 hnet2 hbw2 hW0 c0 c1 c2 f2 l0 l1 l2 hg'r e0 e1 e2
          obtain ⟨g5, cap5, g6, cap6, hvR5, c1, l1, l2, _, hbg6, hx5, hown5, hcols5⟩ := hnet2H.out.R.at heb
          have c2 := hcols5 e.a hea
          have f2 := hown5.frozenAt e.a
          have c0 := hnet2H.out.room
          rw [hvR5] at c0
          have l0 := hnet2H.out.lt
          rw [if_neg (fun c => hneH.out c.1.symm)] at c2
          obtain ⟨r2, hr2E⟩ : ∃ r, roomM bs j e.b e.a = r := ⟨_, rfl⟩
          rw [hr2E] at c2 hr2
          have hr2H := Lib.hid hr2E
          have hw2 : IntKind.i64.wrap (r2 + e.s) = r2 + e.s := IntWalk.i64_in _ ⟨by omega, by omega⟩
          have hx5H := Lib.hid hx5
          clear hcols5 hx5 hvR5 hown5 hr2E hw1
          go_wp2
          refine wp_region_ord [(0, .q), (1, .q), (2, .q), (3, .q), (4, .q), (5, .q), (6, .q), (7, .q), (8, .q), (9, .q), (10, .q), (11, .q), (12, .q), (13, .q), (14, .q), (15, .q), (16, .b)] (by kernel_rfl) (by kernel_rfl) ?_
          simp only [pick, List.filterMap_cons, List.filterMap_nil, List.getElem?_toArray, List.getElem?_cons_zero, List.getElem?_cons_succ, Option.map_some]
          repeat (first | ((with_reducible refine wpD_p (fun K hK => ?_)); go_simp; refine hK _ ?_; clear hK K) | ((with_reducible refine wpD_q (fun K hK => ?_)); go_simp; (first | refine hK _ ?_ | (go_bits; refine hK _ ?_) | (go_bits; go_simp; refine hK _ ?_)); clear hK K))
          with_reducible refine wpD_b (fun K hK => ?_)
          go_simp
          refine hK _ _ ?_
          clear hK K
          with_reducible refine wpD_nil ?_
          go_wp2
          go_roundg (m - (j + 1))
          case measure => omega
          case rel =>
            refine ⟨j + 1, by omega, by go_num, Lib.hid ?_, Lib.hid ?_⟩
            · have h3 := hnet2H.out.storeR (j := e.a) heb hx5H.out (r2 + e.s)
              have hM : (fun a b => if a = e.b ∧ b = e.a then r2 + e.s else (fun a b => if a = e.a ∧ b = e.b then r1 + e.s else roomM bs j a b) a b) = roomM bs (j + 1) := by
                rw [← hsucc.out, hr1H.out, hr2H.out]
              rw [hM] at h3
              exact h3.below (by exact bel_)
            · exact (hbw2H.out.setCell (p := ⟨g6, e.a, none⟩) hbg6 _).drew
        · obtain rfl : j = m := by omega
          go_wp2
          go_ret
          exact ⟨_, vR, vF, uR, uF, rfl, hnet.out, hbw.out⟩
end Go.Proofs.YthieodccakphiaaGreat
