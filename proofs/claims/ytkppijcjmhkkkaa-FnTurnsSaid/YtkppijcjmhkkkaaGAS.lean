import Derived.Test.YtkppijcjmhkkkaaGAH
import Derived.Test.YtkppijcjmhkkkaaGAG
import Derived.Test.YtkppijcjmhkkkaaGAQ
import Derived.Test.YtkppijcjmhkkkaaGAL
import Derived.Test.YtkppijcjmhkkkaaGAN
import Derived.Test.YtkppijcjmhkkkaaGAD
import Derived.Lib.LazyBuf
import Derived.Lib.SliceRun
import Derived.Maps.AppendAt
import Derived.Deep.CutRange
import Derived.Laws.IdiomStrings
import Derived.Laws.Concat
import Derived.Test.YtkppijcjmhkkkaaGAM
set_option linter.unusedSimpArgs false
set_option linter.unusedVariables false
/- Walk: a point put to its place in a list, the reference. -/










namespace Go.Proofs.Ytkppijcjmhkkkaa
open Go.RowKit Go.Shelf
attribute [local go_sem] BelowBy.cell BelowBy.cell_drew stillUpon givesUpon BelowBy.cell_drew2 BelowBy.cell_drew3

theorem infoPtt : (Try.prog.info? 49).map (fun i => (i.zero, i.size, i.bytes)) = some (some (.agg #[.int .i64 0, .int .i64 0]), 2, 16) := by kernel_rfl
theorem row_block {w : World} {base size n c : Nat} {e : TypeId} {A : Option Addr} {xs : List Value} (h : w.ownsRow base e size (.slice A n c) n xs) (hn : 0 < n) : ∃ b, A = some ⟨b, 0, none⟩ ∧ base ≤ b ∧ b < w.heap.size := by
  rcases h.2 with ⟨_, h0⟩ | ⟨b, cap, cur, hv, hb, hg, _⟩
  · omega
  · injection hv with h1 h2 h3
    exact ⟨b, h1, hb, (Array.getElem?_eq_some_iff.1 hg).1⟩
/-- the first N blocks are kept, but one -/
def KpW (ob : Option Nat) (N : Nat) (w w' : World) : Prop := ∀ k, k < N → some k ≠ ob → w'.heap[k]? = w.heap[k]?
theorem KpW.set {ob : Option Nat} {N : Nat} {w W : World} (h : KpW ob N w W) {b o : Nat} (hb : ∀ k, k < N → some k ≠ ob → k ≠ b) (u : Value) : KpW ob N w (W.setCell ⟨b, o, none⟩ u) := fun k hk hne =>
  (Below.heap_setCell _ _ _ _ (hb k hk hne)).trans (h k hk hne)
theorem KpW.grown {ob : Option Nat} {N : Nat} {w W W' : World} (h : KpW ob N w W) (hN : N ≤ W.heap.size) (hg : W.grownBy W' ob) : KpW ob N w W' := fun k hk hne => (hg.block k (by omega) hne).trans (h k hk hne)
theorem KpW.of_below {ob : Option Nat} {N : Nat} {w W : World} (h : Below N w W) : KpW ob N w W := fun k hk _ => h.block k hk
set_option maxRecDepth 100000 in
set_option maxHeartbeats 4000000 in
theorem l08PutPoint_kp {base : Nat} {v : Value} {L : List Pt} {x y : Int} {w : World} (hrow : w.ownsRow base 49 2 v L.length (ptCells L)) (hbase : base ≤ w.heap.size) (hL : L.length ≤ 1000000) :
    Calls Try.prog 42 #[v, .agg #[.int .i64 x, .int .i64 y]] w fun e w' => ∃ v', e = .returned v' ∧ w'.ownsRow base 49 2 v' (putP L x y).length (ptCells (putP L x y)) ∧ Below base w w' ∧ KpW v.ownBlock w.heap.size w w' ∧ (∀ k, k < w.heap.size → some k ≠ v.ownBlock → some k ≠ v'.ownBlock) := by
  obtain ⟨i0, hi, hz0, hz1, hz2⟩ := info_parts infoPtt
  obtain ⟨A, cp, rfl, hrd⟩ := rdPt_of_row hrow
  obtain ⟨ob, hob0⟩ : ∃ ob, Value.ownBlock (.slice A L.length cp) = ob := ⟨_, rfl⟩
  simp only [hob0]
  have hrowH := Lib.hid hrow
  clear hrow hrd
  obtain ⟨n, hn⟩ : ∃ n, L.length = n := ⟨_, rfl⟩
  rw [hn] at hrowH hL hob0 ⊢
  have hobH := Lib.hid hob0
  clear hob0
  have hnH := Lib.hid hn
  clear hn
  go_enter Try.func42, Try.ntmps42
  go_wp2
  go_loopg [5] n (fun gg c wr => ∃ g : Nat, g = gg ∧ c = .int .i64 (g : Int) ∧ g ≤ n ∧ Hid (putAt L x y n = putAt L x y g) ∧ Hid (wr.ownsRow base 49 2 (.slice A n cp) n (ptCells L)) ∧ Hid (Below w.heap.size w wr) ∧ wr.cell? ⟨w.heap.size, 0, none⟩ = some (.int .i64 x) ∧ wr.cell? ⟨w.heap.size, 1, none⟩ = some (.int .i64 y) ∧ w.heap.size < wr.heap.size)
  case atStart => exact ⟨n, rfl, rfl, Nat.le_refl _, Lib.hid rfl, Lib.hid (hrowH.out.alloc _), Lib.hid (by exact bel_), by go_simp, by go_simp, by simp⟩
  case round =>
    obtain ⟨g, rfl, rfl, hgn, hpa, hrw, hbw, x0, x1, hsz⟩ := hrel
    by_cases hgo : ∃ (g' : Nat) (e : Pt), g = g' + 1 ∧ L[g']? = some e ∧ lessPt e.x e.y x y = false
    · obtain ⟨g', e, hg', he, hl⟩ := hgo
      obtain ⟨b, hv, hb1, hb2⟩ := row_block hrw.out (by omega)
      cases hv
      have hgN : 0 < g := by omega
      have hgI : (0 : Int) < (g : Int) := by omega
      have hgm : (g : Int) - 1 = (g' : Int) := by omega
      have hwr : IntKind.i64.wrap (g' : Int) = (g' : Int) := wrap_in (by omega) (by omega)
      have hgl : g' < n := by omega
      have hgl2 : (g' : Int) < (n : Int) := by omega
      obtain ⟨p0, p1⟩ := ptCells_get L g' e he
      have c0 := (hrw.out.cellAt (g' * 2) (by omega)).trans p0
      have c1 := (hrw.out.cellAt (g' * 2 + 1) (by omega)).trans p1
      have hlH := Lib.hid hl
      have hnx := Lib.hid (show putAt L x y g = putAt L x y g' by rw [hg']; exact putAt_go he hl)
      have hgH := Lib.hid hg'
      clear hl he p0 p1 hg'
      go_wp2
      refine wp_region_ord [(0, .q), (1, .q), (2, .q), (3, .q), (4, .q), (5, .q), (6, .q), (7, .q), (8, .q), (9, .g), (10, .q), (11, .q)] (by kernel_rfl) (by kernel_rfl) ?_
      simp only [pick, List.filterMap_cons, List.filterMap_nil, List.getElem?_toArray, List.getElem?_cons_zero, List.getElem?_cons_succ, Option.map_some]
      repeat (first
        | ((with_reducible refine wpD_p (fun K hK => ?_)); go_simp; refine hK _ ?_; clear hK K)
        | ((with_reducible refine wpD_q (fun K hK => ?_)); go_simp; (first | refine hK _ ?_ | (go_bits; refine hK _ ?_) | (go_bits; go_simp; refine hK _ ?_)); clear hK K)
        | ((with_reducible refine wpD_g (fun K hK => ?_)); go_simp; refine hK _ _ ?_; clear hK K)
        | ((with_reducible refine wpD_g (fun K hK => ?_)); go_simp; refine ⟨Grew.of_alloc _, hK _ _ ?_⟩; clear hK K)
        | ((with_reducible refine wpD_g (fun K hK => ?_)); go_simp; refine ⟨Below.refl _ _, hK _ _ ?_⟩; clear hK K)
        | ((with_reducible refine wpD_g (fun K hK => ?_)); go_simp; go_at_call 46; refine (sLessPoint_at hlH.out).mono ?_; rintro e w1 ⟨rfl, hb⟩; refine ⟨_, rfl, hb, hK _ _ ?_⟩; clear hK K; obtain ⟨chb, fhb, shb, thb⟩ := bcell hb))
      with_reducible refine wpD_nil ?_
      go_wp2
      go_roundg g'
      case measure => have := hgH.out; omega
      case rel => exact ⟨g', rfl, by go_num, by omega, Lib.hid (hpa.out.trans hnx.out), Lib.hid (ownsRow_below hrw.out.drew hb), Lib.hid (bl_tr (bl_dr hbw.out) hb), (hb.cell (p := ⟨w.heap.size, 0, none⟩) (by simpa using hsz)).trans (by go_simp), (hb.cell (p := ⟨w.heap.size, 1, none⟩) (by simpa using hsz)).trans (by go_simp), Nat.lt_of_lt_of_le hsz (by have := hb.size; simpa using this)⟩
    · have hst : g = 0 ∨ ∃ (g' : Nat) (e : Pt), g = g' + 1 ∧ L[g']? = some e ∧ lessPt e.x e.y x y = true := by
        rcases Nat.eq_zero_or_pos g with h | h
        · exact Or.inl h
        · obtain ⟨e, he⟩ : ∃ e, L[g - 1]? = some e := ⟨_, List.getElem?_eq_getElem (by rw [hnH.out]; omega)⟩
          refine Or.inr ⟨g - 1, e, by omega, he, ?_⟩
          cases hh : lessPt e.x e.y x y
          · exact (hgo ⟨g - 1, e, by omega, he, hh⟩).elim
          · rfl
      have hat : putAt L x y L.length = g := by
        rw [hnH.out, hpa.out]
        rcases hst with h | ⟨g', e, h, he, hl⟩
        · rw [h]; rfl
        · rw [h]; exact putAt_stop he hl
      have hatH := Lib.hid hat
      have hownb : ∀ b, Value.ownBlock (.slice A n cp) = some b → base ≤ b ∧ b < w.heap.size := fun b hb => hrowH.out.lt b hb
      have hownbH := Lib.hid hownb
      clear hat hgo hownb
      rcases hst with h0 | ⟨g', e, hg', he, hl⟩
      · have hgN : ¬ 0 < g := by omega
        have hgI : ¬ (0 : Int) < (g : Int) := by omega
        have h0H := Lib.hid h0
        clear h0
        go_wp2
        refine wp_region_ord [(0, .q), (1, .q), (2, .q), (3, .q), (4, .q), (5, .q), (6, .q), (7, .q), (8, .q), (9, .g), (10, .q), (11, .q)] (by kernel_rfl) (by kernel_rfl) ?_
        simp only [pick, List.filterMap_cons, List.filterMap_nil, List.getElem?_toArray, List.getElem?_cons_zero, List.getElem?_cons_succ, Option.map_some]
        repeat (first
          | ((with_reducible refine wpD_p (fun K hK => ?_)); go_simp; refine hK _ ?_; clear hK K)
          | ((with_reducible refine wpD_q (fun K hK => ?_)); go_simp; (first | refine hK _ ?_ | (go_bits; refine hK _ ?_) | (go_bits; go_simp; refine hK _ ?_)); clear hK K)
          | ((with_reducible refine wpD_g (fun K hK => ?_)); go_simp; refine hK _ _ ?_; clear hK K)
          | ((with_reducible refine wpD_g (fun K hK => ?_)); go_simp; refine ⟨Grew.of_alloc _, hK _ _ ?_⟩; clear hK K)
          | ((with_reducible refine wpD_g (fun K hK => ?_)); go_simp; refine ⟨Below.refl _ _, hK _ _ ?_⟩; clear hK K))
        with_reducible refine wpD_nil ?_
        have hrwW := Lib.hid hrw.out.drew
        have hbW := Lib.hid (bl_dr hbw.out)
        have z0 : wr.drew.cell? ⟨w.heap.size, 0, none⟩ = some (.int .i64 x) := by go_simp
        have z1 : wr.drew.cell? ⟨w.heap.size, 1, none⟩ = some (.int .i64 y) := by go_simp
        have hsW : w.heap.size < wr.drew.heap.size := by simpa using hsz
        clear x0 x1 hsz hrw hbw hgI hgN
        generalize wr.drew = W at *
        go_wp2
        by_cases hth : L[g]? = some ⟨x, y⟩
        · have hgn2 : g < n := by rw [← hnH.out]; exact lt_of_get hth
          have hgnI : (g : Int) < (n : Int) := by omega
          obtain ⟨b2, hv, hb1, hb2⟩ := row_block hrwW.out (by omega)
          cases hv
          obtain ⟨p0, p1⟩ := ptCells_get L g _ hth
          have c0 := (hrwW.out.cellAt (g * 2) (by omega)).trans p0
          have c1 := (hrwW.out.cellAt (g * 2 + 1) (by omega)).trans p1
          have hPT := Lib.hid (putP_there hatH.out hth)
          clear hth p0 p1
          refine wp_region_ord [(0, .q), (1, .q), (2, .q), (3, .q), (4, .q), (5, .q), (6, .q), (7, .q), (8, .q), (9, .q), (10, .q), (11, .q)] (by kernel_rfl) (by kernel_rfl) ?_
          simp only [pick, List.filterMap_cons, List.filterMap_nil, List.getElem?_toArray, List.getElem?_cons_zero, List.getElem?_cons_succ, Option.map_some]
          repeat (first
            | ((with_reducible refine wpD_p (fun K hK => ?_)); go_simp; refine hK _ ?_; clear hK K)
            | ((with_reducible refine wpD_q (fun K hK => ?_)); go_simp; (first | refine hK _ ?_ | (go_bits; refine hK _ ?_) | (go_bits; go_simp; refine hK _ ?_)); clear hK K)
            | ((with_reducible refine wpD_g (fun K hK => ?_)); go_simp; refine hK _ _ ?_; clear hK K)
            | ((with_reducible refine wpD_g (fun K hK => ?_)); go_simp; refine ⟨Grew.of_alloc _, hK _ _ ?_⟩; clear hK K)
            | ((with_reducible refine wpD_g (fun K hK => ?_)); go_simp; refine ⟨Below.refl _ _, hK _ _ ?_⟩; clear hK K))
          with_reducible refine wpD_nil ?_
          go_wp2
          go_ret
          exact ⟨_, rfl, by rw [hPT.out, hnH.out]; exact hrwW.out.drew, (bl_dr hbW.out).mono hbase, KpW.of_below (bl_dr hbW.out), fun k _ h h3 => h (h3.trans hobH.out)⟩
        · have hPN := Lib.hid (putP_new hatH.out hth)
          have hth2 : g = n ∨ ∃ e2 : Pt, g < n ∧ L[g]? = some e2 ∧ ((e2.x == x) = false ∨ ((e2.x == x) = true ∧ (e2.y == y) = false)) := by
            rcases Nat.lt_or_ge g n with h | h
            · obtain ⟨e2, he2⟩ : ∃ e, L[g]? = some e := ⟨_, List.getElem?_eq_getElem (by rw [hnH.out]; exact h)⟩
              refine Or.inr ⟨e2, h, he2, ?_⟩
              cases hh : (e2.x == x)
              · exact Or.inl rfl
              · cases hh2 : (e2.y == y)
                · exact Or.inr ⟨rfl, rfl⟩
                · exact (hth (by rw [he2, ← beq_iff_eq.1 hh, ← beq_iff_eq.1 hh2])).elim
            · exact Or.inl (by omega)
          clear hth
          rcases hth2 with hgn2 | ⟨e2, hgn2, he2, hne⟩
          · have hgnN : ¬ g < n := by omega
            have hgnI : ¬ (g : Int) < (n : Int) := by omega
            have hgn2H := Lib.hid hgn2
            clear hgn2
            refine wp_region_ord [(0, .q), (1, .q), (2, .q), (3, .q), (4, .q), (5, .q), (6, .q), (7, .q), (8, .q), (9, .q), (10, .q), (11, .q)] (by kernel_rfl) (by kernel_rfl) ?_
            simp only [pick, List.filterMap_cons, List.filterMap_nil, List.getElem?_toArray, List.getElem?_cons_zero, List.getElem?_cons_succ, Option.map_some]
            repeat (first
              | ((with_reducible refine wpD_p (fun K hK => ?_)); go_simp; refine hK _ ?_; clear hK K)
              | ((with_reducible refine wpD_q (fun K hK => ?_)); go_simp; (first | refine hK _ ?_ | (go_bits; refine hK _ ?_) | (go_bits; go_simp; refine hK _ ?_)); clear hK K)
              | ((with_reducible refine wpD_g (fun K hK => ?_)); go_simp; refine hK _ _ ?_; clear hK K)
              | ((with_reducible refine wpD_g (fun K hK => ?_)); go_simp; refine ⟨Grew.of_alloc _, hK _ _ ?_⟩; clear hK K)
              | ((with_reducible refine wpD_g (fun K hK => ?_)); go_simp; refine ⟨Below.refl _ _, hK _ _ ?_⟩; clear hK K))
            with_reducible refine wpD_nil ?_
            clear hgnN hgnI
            go_upto_region 7 with (at_builtin; refine wpList_append_own_at _ rfl _ _ 24 rfl base 49 i0 (.agg #[.int .i64 0, .int .i64 0]) 2 16 Try.underlying24 hi hz0 hz1 hz2 rfl (by decide) _ n (ptCells L) rfl (hrwW.out.drew.alloc _) ⟨W.drew.heap.size, 0, none⟩ 1 1 [.int .i64 x, .int .i64 y] rfl rfl (cell_pt2 _ _ _ _) (fun u hu => by simp at hu; rcases hu with rfl | rfl <;> rfl) (by unfold maxLen; omega) (by omega) (by simp; omega) ?_; intro v3 w3 hown3 hgrow _ hob)
            have hL1 : (L ++ [(⟨x, y⟩ : Pt)]).length = n + 1 := by rw [List.length_append, hnH.out]; rfl
            rw [show ptCells L ++ [Value.int .i64 x, Value.int .i64 y] = ptCells (L ++ [⟨x, y⟩]) from (ptCells_snoc L ⟨x, y⟩).symm] at hown3
            obtain ⟨b3, cap3, rfl⟩ := ownsRow_succ hown3
            have hne3 : b3 ≠ w.heap.size := by
              rcases hob with h | h
              · have := (hownbH.out b3 h.symm).2; omega
              · injection h with h; simp at h; omega
            have hlt3 := hown3.lt b3 rfl
            have hfar : Below base w w3 := by
              refine ((((bl_dr hbW.out).mono hbase).alloc (by simp; omega) _).grown hgrow (by simp; omega) (fun b' hb' => (hownbH.out b' hb').1))
            have u0 : w3.cell? ⟨w.heap.size, 0, none⟩ = some (.int .i64 x) := (World.cell?_of_block (a := ⟨w.heap.size, 0, none⟩) (hgrow.block w.heap.size (by simp; omega) (fun hh => by have := hownbH.out _ hh.symm; omega))).trans (by go_simp)
            have u1 : w3.cell? ⟨w.heap.size, 1, none⟩ = some (.int .i64 y) := (World.cell?_of_block (a := ⟨w.heap.size, 1, none⟩) (hgrow.block w.heap.size (by simp; omega) (fun hh => by have := hownbH.out _ hh.symm; omega))).trans (by go_simp)
            have s3 : w.heap.size < w3.heap.size := Nat.lt_of_lt_of_le hsW (by have := hgrow.size; simp at this; omega)
            have hownH3 := Lib.hid hown3
            have hnk : Hid (∀ k, k < w.heap.size → some k ≠ ob → k ≠ b3) := Lib.hid (fun k hk hne hc => by
              rcases hob with h | h
              · exact hne (by rw [hc]; exact h.trans hobH.out)
              · injection h with h; simp at h; omega)
            have hkp : KpW ob w.heap.size w w3 := (KpW.of_below ((bl_dr hbW.out).alloc (by simp; omega) _)).grown (by simp; omega) (by rw [← hobH.out]; exact hgrow)
            have hfarH := Lib.hid (And.intro hfar hkp)
            have hwn : IntKind.i64.wrap (n : Int) = (n : Int) := wrap_in (by omega) (by omega)
            generalize hN1 : n + 1 = N1 at *
            have hN1m : (N1 : Int) - 1 = (n : Int) := by omega
            clear hown3 hfar hkp hgrow hob z0 z1
            go_wp2
            go_loopg [6] (n - g) (fun gg c wx => ∃ (i : Nat) (ys : List Pt), i = gg + g ∧ c = .int .i64 (i : Int) ∧ i ≤ n ∧ Hid (ys.length = N1 ∧ (∀ j, j < i → ys[j]? = L[j]?) ∧ (∀ j, i < j → j ≤ n → ys[j]? = L[j - 1]?)) ∧ Hid (wx.ownsRow base 49 2 (.slice (some ⟨b3, 0, none⟩) N1 cap3) N1 (ptCells ys)) ∧ Hid (Below base w wx ∧ KpW ob w.heap.size w wx) ∧ wx.cell? ⟨w.heap.size, 0, none⟩ = some (.int .i64 x) ∧ wx.cell? ⟨w.heap.size, 1, none⟩ = some (.int .i64 y) ∧ w.heap.size < wx.heap.size ∧ b3 < wx.heap.size)
            case atStart => exact ⟨n, L ++ [⟨x, y⟩], by omega, by go_num, Nat.le_refl _, Lib.hid ⟨hL1, fun j hj => List.getElem?_append_left (by rw [hnH.out]; exact hj), fun j h1 h2 => by omega⟩, hownH3, hfarH, u0, u1, s3, hlt3.2⟩
            case round =>
              obtain ⟨i, ys, hi2, rfl, hin, hys, hrx, hbx, y0, y1, hsx, hbx3⟩ := hrel
              have hi2H := Lib.hid hi2
              clear hi2
              clear u0 u1
              have n1 : ¬ b3 = w.heap.size := hne3
              have n2 : ¬ w.heap.size = b3 := fun h => hne3 h.symm
              by_cases hig : g < i
              · have higI : (g : Int) < (i : Int) := by omega
                obtain ⟨i', hi'⟩ : ∃ i', i = i' + 1 := ⟨i - 1, by omega⟩
                have him : (i : Int) - 1 = (i' : Int) := by omega
                have hwi : IntKind.i64.wrap (i' : Int) = (i' : Int) := wrap_in (by omega) (by omega)
                have hl1 : i < N1 := by omega
                have hl2 : i' < N1 := by omega
                have hl3 : (i : Int) < (N1 : Int) := by omega
                have hl4 : (i' : Int) < (N1 : Int) := by omega
                obtain ⟨e3, he3⟩ : ∃ e, ys[i']? = some e := ⟨_, List.getElem?_eq_getElem (by rw [hys.out.1]; omega)⟩
                obtain ⟨p0, p1⟩ := ptCells_get ys i' e3 he3
                have c0 := (hrx.out.cellAt (i' * 2) (by omega)).trans p0
                have c1 := (hrx.out.cellAt (i' * 2 + 1) (by omega)).trans p1
                have f0 := hrx.out.frozenAt (i * 2)
                have f1 := hrx.out.frozenAt (i * 2 + 1)
                obtain ⟨eo, heo⟩ : ∃ e, ys[i]? = some e := ⟨_, List.getElem?_eq_getElem (by rw [hys.out.1]; omega)⟩
                obtain ⟨r0, r1⟩ := ptCells_get ys i eo heo
                have d0 := (hrx.out.cellAt (i * 2) (by omega)).trans r0
                have d1 := (hrx.out.cellAt (i * 2 + 1) (by omega)).trans r1
                clear r0 r1 heo
                have he3H := Lib.hid he3
                have hi'H := Lib.hid hi'
                clear p0 p1 he3 hi'
                go_wp2
                go_roundg (i' - g)
                case measure => have := hi'H.out; have := hi2H.out; omega
                case rel => exact ⟨i', ys.set i ⟨e3.x, e3.y⟩, by have := hi'H.out; have := hi2H.out; omega, by go_num, by omega, Lib.hid ⟨by rw [List.length_set]; exact hys.out.1, fun j hj => by
                    have := hi'H.out
                    rw [List.getElem?_set_ne (by omega)]; exact hys.out.2.1 j (by omega), fun j h1 h2 => by
                    have := hi'H.out
                    rcases Nat.lt_or_ge i j with h3 | h3
                    · rw [List.getElem?_set_ne (by omega)]; exact hys.out.2.2 j h3 h2
                    · obtain rfl : j = i := by omega
                      rw [List.getElem?_set_self (by rw [hys.out.1]; omega), ← hys.out.2.1 (j - 1) (by omega), show j - 1 = i' by omega, he3H.out]⟩, Lib.hid (by
                    rw [← ptCells_set ys i e3.x e3.y (by rw [hys.out.1]; omega)]
                    exact ((hrx.out.stored (i * 2) _).1.stored (i * 2 + 1) _).1), Lib.hid ⟨(hbx.out.1.setCell (p := ⟨b3, i * 2, none⟩) hlt3.1 _).setCell (p := ⟨b3, i * 2 + 1, none⟩) hlt3.1 _, (hbx.out.2.set hnk.out _).set hnk.out _⟩, by go_simp, by go_simp, by simp; omega, by simp; omega⟩
              · obtain rfl : i = g := by have := hi2H.out; omega
                have hl1 : i < N1 := by omega
                have hl3 : (i : Int) < (N1 : Int) := by omega
                have f0 := hrx.out.frozenAt (i * 2)
                have f1 := hrx.out.frozenAt (i * 2 + 1)
                obtain ⟨eo, heo⟩ : ∃ e, ys[i]? = some e := ⟨_, List.getElem?_eq_getElem (by rw [hys.out.1]; omega)⟩
                obtain ⟨r0, r1⟩ := ptCells_get ys i eo heo
                have d0 := (hrx.out.cellAt (i * 2) (by omega)).trans r0
                have d1 := (hrx.out.cellAt (i * 2 + 1) (by omega)).trans r1
                clear r0 r1 heo
                have hsh := Lib.hid (putP_shift (x := x) (y := y) (by rw [hnH.out]; exact hgn) (by rw [hnH.out]; exact hys.out.1.trans hN1.symm) hys.out.2.1 (by rw [hnH.out]; exact hys.out.2.2))
                have hres := Lib.hid (show ptCells (putP L x y) = ((ptCells ys).set (i * 2) (.int .i64 x)).set (i * 2 + 1) (.int .i64 y) by rw [ptCells_set ys i x y (by rw [hys.out.1]; omega), hsh.out, hPN.out])
                have hlen := Lib.hid (show (putP L x y).length = N1 by rw [hPN.out, ← hsh.out, List.length_set]; exact hys.out.1)
                go_wp2
                go_ret
                exact ⟨_, rfl, by rw [hres.out, hlen.out]; exact ((hrx.out.stored (i * 2) _).1.stored (i * 2 + 1) _).1, (hbx.out.1.setCell (p := ⟨b3, i * 2, none⟩) hlt3.1 _).setCell (p := ⟨b3, i * 2 + 1, none⟩) hlt3.1 _, (hbx.out.2.set hnk.out _).set hnk.out _, fun k h1 h2 h3 => hnk.out k h1 h2 (by injection h3)⟩
          · have hgnI : (g : Int) < (n : Int) := by omega
            have hrwW2 := hrwW.out
            obtain ⟨b2, hv, hb1, hb2⟩ := row_block hrwW.out (by omega)
            cases hv
            obtain ⟨p0, p1⟩ := ptCells_get L g _ he2
            have c0 := (hrwW.out.cellAt (g * 2) (by omega)).trans p0
            have c1 := (hrwW.out.cellAt (g * 2 + 1) (by omega)).trans p1
            clear p0 p1 he2 hrwW2
            rcases hne with hne | ⟨hne, hne2⟩
            all_goals
              refine wp_region_ord [(0, .q), (1, .q), (2, .q), (3, .q), (4, .q), (5, .q), (6, .q), (7, .q), (8, .q), (9, .q), (10, .q), (11, .q)] (by kernel_rfl) (by kernel_rfl) ?_
              simp only [pick, List.filterMap_cons, List.filterMap_nil, List.getElem?_toArray, List.getElem?_cons_zero, List.getElem?_cons_succ, Option.map_some]
              repeat (first
                | ((with_reducible refine wpD_p (fun K hK => ?_)); go_simp; refine hK _ ?_; clear hK K)
                | ((with_reducible refine wpD_q (fun K hK => ?_)); go_simp; (first | refine hK _ ?_ | (go_bits; refine hK _ ?_) | (go_bits; go_simp; refine hK _ ?_)); clear hK K)
                | ((with_reducible refine wpD_g (fun K hK => ?_)); go_simp; refine hK _ _ ?_; clear hK K)
                | ((with_reducible refine wpD_g (fun K hK => ?_)); go_simp; refine ⟨Grew.of_alloc _, hK _ _ ?_⟩; clear hK K)
                | ((with_reducible refine wpD_g (fun K hK => ?_)); go_simp; refine ⟨Below.refl _ _, hK _ _ ?_⟩; clear hK K))
              with_reducible refine wpD_nil ?_
              clear c0 c1
              go_upto_region 7 with (at_builtin; refine wpList_append_own_at _ rfl _ _ 24 rfl base 49 i0 (.agg #[.int .i64 0, .int .i64 0]) 2 16 Try.underlying24 hi hz0 hz1 hz2 rfl (by decide) _ n (ptCells L) rfl (hrwW.out.drew.alloc _) ⟨W.drew.heap.size, 0, none⟩ 1 1 [.int .i64 x, .int .i64 y] rfl rfl (cell_pt2 _ _ _ _) (fun u hu => by simp at hu; rcases hu with rfl | rfl <;> rfl) (by unfold maxLen; omega) (by omega) (by simp; omega) ?_; intro v3 w3 hown3 hgrow _ hob)
              have hL1 : (L ++ [(⟨x, y⟩ : Pt)]).length = n + 1 := by rw [List.length_append, hnH.out]; rfl
              rw [show ptCells L ++ [Value.int .i64 x, Value.int .i64 y] = ptCells (L ++ [⟨x, y⟩]) from (ptCells_snoc L ⟨x, y⟩).symm] at hown3
              obtain ⟨b3, cap3, rfl⟩ := ownsRow_succ hown3
              have hne3 : b3 ≠ w.heap.size := by
                rcases hob with h | h
                · have := (hownbH.out b3 h.symm).2; omega
                · injection h with h; simp at h; omega
              have hlt3 := hown3.lt b3 rfl
              have hfar : Below base w w3 := by
                refine ((((bl_dr hbW.out).mono hbase).alloc (by simp; omega) _).grown hgrow (by simp; omega) (fun b' hb' => (hownbH.out b' hb').1))
              have u0 : w3.cell? ⟨w.heap.size, 0, none⟩ = some (.int .i64 x) := (World.cell?_of_block (a := ⟨w.heap.size, 0, none⟩) (hgrow.block w.heap.size (by simp; omega) (fun hh => by have := hownbH.out _ hh.symm; omega))).trans (by go_simp)
              have u1 : w3.cell? ⟨w.heap.size, 1, none⟩ = some (.int .i64 y) := (World.cell?_of_block (a := ⟨w.heap.size, 1, none⟩) (hgrow.block w.heap.size (by simp; omega) (fun hh => by have := hownbH.out _ hh.symm; omega))).trans (by go_simp)
              have s3 : w.heap.size < w3.heap.size := Nat.lt_of_lt_of_le hsW (by have := hgrow.size; simp at this; omega)
              have hownH3 := Lib.hid hown3
              have hnk : Hid (∀ k, k < w.heap.size → some k ≠ ob → k ≠ b3) := Lib.hid (fun k hk hne hc => by
                rcases hob with h | h
                · exact hne (by rw [hc]; exact h.trans hobH.out)
                · injection h with h; simp at h; omega)
              have hkp : KpW ob w.heap.size w w3 := (KpW.of_below ((bl_dr hbW.out).alloc (by simp; omega) _)).grown (by simp; omega) (by rw [← hobH.out]; exact hgrow)
              have hfarH := Lib.hid (And.intro hfar hkp)
              have hwn : IntKind.i64.wrap (n : Int) = (n : Int) := wrap_in (by omega) (by omega)
              generalize hN1 : n + 1 = N1 at *
              have hN1m : (N1 : Int) - 1 = (n : Int) := by omega
              clear hown3 hfar hkp hgrow hob z0 z1
              go_wp2
              go_loopg [6] (n - g) (fun gg c wx => ∃ (i : Nat) (ys : List Pt), i = gg + g ∧ c = .int .i64 (i : Int) ∧ i ≤ n ∧ Hid (ys.length = N1 ∧ (∀ j, j < i → ys[j]? = L[j]?) ∧ (∀ j, i < j → j ≤ n → ys[j]? = L[j - 1]?)) ∧ Hid (wx.ownsRow base 49 2 (.slice (some ⟨b3, 0, none⟩) N1 cap3) N1 (ptCells ys)) ∧ Hid (Below base w wx ∧ KpW ob w.heap.size w wx) ∧ wx.cell? ⟨w.heap.size, 0, none⟩ = some (.int .i64 x) ∧ wx.cell? ⟨w.heap.size, 1, none⟩ = some (.int .i64 y) ∧ w.heap.size < wx.heap.size ∧ b3 < wx.heap.size)
              case atStart => exact ⟨n, L ++ [⟨x, y⟩], by omega, by go_num, Nat.le_refl _, Lib.hid ⟨hL1, fun j hj => List.getElem?_append_left (by rw [hnH.out]; exact hj), fun j h1 h2 => by omega⟩, hownH3, hfarH, u0, u1, s3, hlt3.2⟩
              case round =>
                obtain ⟨i, ys, hi2, rfl, hin, hys, hrx, hbx, y0, y1, hsx, hbx3⟩ := hrel
                have hi2H := Lib.hid hi2
                clear hi2
                clear u0 u1
                have n1 : ¬ b3 = w.heap.size := hne3
                have n2 : ¬ w.heap.size = b3 := fun h => hne3 h.symm
                by_cases hig : g < i
                · have higI : (g : Int) < (i : Int) := by omega
                  obtain ⟨i', hi'⟩ : ∃ i', i = i' + 1 := ⟨i - 1, by omega⟩
                  have him : (i : Int) - 1 = (i' : Int) := by omega
                  have hwi : IntKind.i64.wrap (i' : Int) = (i' : Int) := wrap_in (by omega) (by omega)
                  have hl1 : i < N1 := by omega
                  have hl2 : i' < N1 := by omega
                  have hl3 : (i : Int) < (N1 : Int) := by omega
                  have hl4 : (i' : Int) < (N1 : Int) := by omega
                  obtain ⟨e3, he3⟩ : ∃ e, ys[i']? = some e := ⟨_, List.getElem?_eq_getElem (by rw [hys.out.1]; omega)⟩
                  obtain ⟨p0, p1⟩ := ptCells_get ys i' e3 he3
                  have c0 := (hrx.out.cellAt (i' * 2) (by omega)).trans p0
                  have c1 := (hrx.out.cellAt (i' * 2 + 1) (by omega)).trans p1
                  have f0 := hrx.out.frozenAt (i * 2)
                  have f1 := hrx.out.frozenAt (i * 2 + 1)
                  obtain ⟨eo, heo⟩ : ∃ e, ys[i]? = some e := ⟨_, List.getElem?_eq_getElem (by rw [hys.out.1]; omega)⟩
                  obtain ⟨r0, r1⟩ := ptCells_get ys i eo heo
                  have d0 := (hrx.out.cellAt (i * 2) (by omega)).trans r0
                  have d1 := (hrx.out.cellAt (i * 2 + 1) (by omega)).trans r1
                  clear r0 r1 heo
                  have he3H := Lib.hid he3
                  have hi'H := Lib.hid hi'
                  clear p0 p1 he3 hi'
                  go_wp2
                  go_roundg (i' - g)
                  case measure => have := hi'H.out; have := hi2H.out; omega
                  case rel => exact ⟨i', ys.set i ⟨e3.x, e3.y⟩, by have := hi'H.out; have := hi2H.out; omega, by go_num, by omega, Lib.hid ⟨by rw [List.length_set]; exact hys.out.1, fun j hj => by
                      have := hi'H.out
                      rw [List.getElem?_set_ne (by omega)]; exact hys.out.2.1 j (by omega), fun j h1 h2 => by
                      have := hi'H.out
                      rcases Nat.lt_or_ge i j with h3 | h3
                      · rw [List.getElem?_set_ne (by omega)]; exact hys.out.2.2 j h3 h2
                      · obtain rfl : j = i := by omega
                        rw [List.getElem?_set_self (by rw [hys.out.1]; omega), ← hys.out.2.1 (j - 1) (by omega), show j - 1 = i' by omega, he3H.out]⟩, Lib.hid (by
                      rw [← ptCells_set ys i e3.x e3.y (by rw [hys.out.1]; omega)]
                      exact ((hrx.out.stored (i * 2) _).1.stored (i * 2 + 1) _).1), Lib.hid ⟨(hbx.out.1.setCell (p := ⟨b3, i * 2, none⟩) hlt3.1 _).setCell (p := ⟨b3, i * 2 + 1, none⟩) hlt3.1 _, (hbx.out.2.set hnk.out _).set hnk.out _⟩, by go_simp, by go_simp, by simp; omega, by simp; omega⟩
                · obtain rfl : i = g := by have := hi2H.out; omega
                  have hl1 : i < N1 := by omega
                  have hl3 : (i : Int) < (N1 : Int) := by omega
                  have f0 := hrx.out.frozenAt (i * 2)
                  have f1 := hrx.out.frozenAt (i * 2 + 1)
                  obtain ⟨eo, heo⟩ : ∃ e, ys[i]? = some e := ⟨_, List.getElem?_eq_getElem (by rw [hys.out.1]; omega)⟩
                  obtain ⟨r0, r1⟩ := ptCells_get ys i eo heo
                  have d0 := (hrx.out.cellAt (i * 2) (by omega)).trans r0
                  have d1 := (hrx.out.cellAt (i * 2 + 1) (by omega)).trans r1
                  clear r0 r1 heo
                  have hsh := Lib.hid (putP_shift (x := x) (y := y) (by rw [hnH.out]; exact hgn) (by rw [hnH.out]; exact hys.out.1.trans hN1.symm) hys.out.2.1 (by rw [hnH.out]; exact hys.out.2.2))
                  have hres := Lib.hid (show ptCells (putP L x y) = ((ptCells ys).set (i * 2) (.int .i64 x)).set (i * 2 + 1) (.int .i64 y) by rw [ptCells_set ys i x y (by rw [hys.out.1]; omega), hsh.out, hPN.out])
                  have hlen := Lib.hid (show (putP L x y).length = N1 by rw [hPN.out, ← hsh.out, List.length_set]; exact hys.out.1)
                  go_wp2
                  go_ret
                  exact ⟨_, rfl, by rw [hres.out, hlen.out]; exact ((hrx.out.stored (i * 2) _).1.stored (i * 2 + 1) _).1, (hbx.out.1.setCell (p := ⟨b3, i * 2, none⟩) hlt3.1 _).setCell (p := ⟨b3, i * 2 + 1, none⟩) hlt3.1 _, (hbx.out.2.set hnk.out _).set hnk.out _, fun k h1 h2 h3 => hnk.out k h1 h2 (by injection h3)⟩
      · obtain ⟨b, hv, hb1, hb2⟩ := row_block hrw.out (by omega)
        cases hv
        have hgN : 0 < g := by omega
        have hgI : (0 : Int) < (g : Int) := by omega
        have hgm : (g : Int) - 1 = (g' : Int) := by omega
        have hwr : IntKind.i64.wrap (g' : Int) = (g' : Int) := wrap_in (by omega) (by omega)
        have hgl : g' < n := by omega
        have hgl2 : (g' : Int) < (n : Int) := by omega
        obtain ⟨p0, p1⟩ := ptCells_get L g' e he
        have c0 := (hrw.out.cellAt (g' * 2) (by omega)).trans p0
        have c1 := (hrw.out.cellAt (g' * 2 + 1) (by omega)).trans p1
        have hlH := Lib.hid hl
        clear hl he p0 p1 hg'
        go_wp2
        refine wp_region_ord [(0, .q), (1, .q), (2, .q), (3, .q), (4, .q), (5, .q), (6, .q), (7, .q), (8, .q), (9, .g), (10, .q), (11, .q)] (by kernel_rfl) (by kernel_rfl) ?_
        simp only [pick, List.filterMap_cons, List.filterMap_nil, List.getElem?_toArray, List.getElem?_cons_zero, List.getElem?_cons_succ, Option.map_some]
        repeat (first
          | ((with_reducible refine wpD_p (fun K hK => ?_)); go_simp; refine hK _ ?_; clear hK K)
          | ((with_reducible refine wpD_q (fun K hK => ?_)); go_simp; (first | refine hK _ ?_ | (go_bits; refine hK _ ?_) | (go_bits; go_simp; refine hK _ ?_)); clear hK K)
          | ((with_reducible refine wpD_g (fun K hK => ?_)); go_simp; refine hK _ _ ?_; clear hK K)
          | ((with_reducible refine wpD_g (fun K hK => ?_)); go_simp; refine ⟨Grew.of_alloc _, hK _ _ ?_⟩; clear hK K)
          | ((with_reducible refine wpD_g (fun K hK => ?_)); go_simp; refine ⟨Below.refl _ _, hK _ _ ?_⟩; clear hK K)
          | ((with_reducible refine wpD_g (fun K hK => ?_)); go_simp; go_at_call 46; refine (sLessPoint_at hlH.out).mono ?_; rintro e W ⟨rfl, hb⟩; refine ⟨_, rfl, hb, hK _ _ ?_⟩; clear hK K; obtain ⟨chb, fhb, shb, thb⟩ := bcell hb))
        with_reducible refine wpD_nil ?_
        have hrwW := Lib.hid (ownsRow_below hrw.out.drew hb)
        have hbW := Lib.hid (bl_tr (bl_dr hbw.out) hb)
        have z0 : W.cell? ⟨w.heap.size, 0, none⟩ = some (.int .i64 x) := (hb.cell (p := ⟨w.heap.size, 0, none⟩) (by simpa using hsz)).trans (by go_simp)
        have z1 : W.cell? ⟨w.heap.size, 1, none⟩ = some (.int .i64 y) := (hb.cell (p := ⟨w.heap.size, 1, none⟩) (by simpa using hsz)).trans (by go_simp)
        have hsW : w.heap.size < W.heap.size := Nat.lt_of_lt_of_le hsz (by have := hb.size; simpa using this)
        clear x0 x1 hsz hrw hbw hgI hgN hgm hwr hgl hgl2 c0 c1 hb chb fhb shb thb
        go_wp2
        by_cases hth : L[g]? = some ⟨x, y⟩
        · have hgn2 : g < n := by rw [← hnH.out]; exact lt_of_get hth
          have hgnI : (g : Int) < (n : Int) := by omega
          obtain ⟨b2, hv, hb1, hb2⟩ := row_block hrwW.out (by omega)
          cases hv
          obtain ⟨p0, p1⟩ := ptCells_get L g _ hth
          have c0 := (hrwW.out.cellAt (g * 2) (by omega)).trans p0
          have c1 := (hrwW.out.cellAt (g * 2 + 1) (by omega)).trans p1
          have hPT := Lib.hid (putP_there hatH.out hth)
          clear hth p0 p1
          refine wp_region_ord [(0, .q), (1, .q), (2, .q), (3, .q), (4, .q), (5, .q), (6, .q), (7, .q), (8, .q), (9, .q), (10, .q), (11, .q)] (by kernel_rfl) (by kernel_rfl) ?_
          simp only [pick, List.filterMap_cons, List.filterMap_nil, List.getElem?_toArray, List.getElem?_cons_zero, List.getElem?_cons_succ, Option.map_some]
          repeat (first
            | ((with_reducible refine wpD_p (fun K hK => ?_)); go_simp; refine hK _ ?_; clear hK K)
            | ((with_reducible refine wpD_q (fun K hK => ?_)); go_simp; (first | refine hK _ ?_ | (go_bits; refine hK _ ?_) | (go_bits; go_simp; refine hK _ ?_)); clear hK K)
            | ((with_reducible refine wpD_g (fun K hK => ?_)); go_simp; refine hK _ _ ?_; clear hK K)
            | ((with_reducible refine wpD_g (fun K hK => ?_)); go_simp; refine ⟨Grew.of_alloc _, hK _ _ ?_⟩; clear hK K)
            | ((with_reducible refine wpD_g (fun K hK => ?_)); go_simp; refine ⟨Below.refl _ _, hK _ _ ?_⟩; clear hK K))
          with_reducible refine wpD_nil ?_
          go_wp2
          go_ret
          exact ⟨_, rfl, by rw [hPT.out, hnH.out]; exact hrwW.out.drew, (bl_dr hbW.out).mono hbase, KpW.of_below (bl_dr hbW.out), fun k _ h h3 => h (h3.trans hobH.out)⟩
        · have hPN := Lib.hid (putP_new hatH.out hth)
          have hth2 : g = n ∨ ∃ e2 : Pt, g < n ∧ L[g]? = some e2 ∧ ((e2.x == x) = false ∨ ((e2.x == x) = true ∧ (e2.y == y) = false)) := by
            rcases Nat.lt_or_ge g n with h | h
            · obtain ⟨e2, he2⟩ : ∃ e, L[g]? = some e := ⟨_, List.getElem?_eq_getElem (by rw [hnH.out]; exact h)⟩
              refine Or.inr ⟨e2, h, he2, ?_⟩
              cases hh : (e2.x == x)
              · exact Or.inl rfl
              · cases hh2 : (e2.y == y)
                · exact Or.inr ⟨rfl, rfl⟩
                · exact (hth (by rw [he2, ← beq_iff_eq.1 hh, ← beq_iff_eq.1 hh2])).elim
            · exact Or.inl (by omega)
          clear hth
          rcases hth2 with hgn2 | ⟨e2, hgn2, he2, hne⟩
          · have hgnN : ¬ g < n := by omega
            have hgnI : ¬ (g : Int) < (n : Int) := by omega
            have hgn2H := Lib.hid hgn2
            clear hgn2
            refine wp_region_ord [(0, .q), (1, .q), (2, .q), (3, .q), (4, .q), (5, .q), (6, .q), (7, .q), (8, .q), (9, .q), (10, .q), (11, .q)] (by kernel_rfl) (by kernel_rfl) ?_
            simp only [pick, List.filterMap_cons, List.filterMap_nil, List.getElem?_toArray, List.getElem?_cons_zero, List.getElem?_cons_succ, Option.map_some]
            repeat (first
              | ((with_reducible refine wpD_p (fun K hK => ?_)); go_simp; refine hK _ ?_; clear hK K)
              | ((with_reducible refine wpD_q (fun K hK => ?_)); go_simp; (first | refine hK _ ?_ | (go_bits; refine hK _ ?_) | (go_bits; go_simp; refine hK _ ?_)); clear hK K)
              | ((with_reducible refine wpD_g (fun K hK => ?_)); go_simp; refine hK _ _ ?_; clear hK K)
              | ((with_reducible refine wpD_g (fun K hK => ?_)); go_simp; refine ⟨Grew.of_alloc _, hK _ _ ?_⟩; clear hK K)
              | ((with_reducible refine wpD_g (fun K hK => ?_)); go_simp; refine ⟨Below.refl _ _, hK _ _ ?_⟩; clear hK K))
            with_reducible refine wpD_nil ?_
            clear hgnN hgnI
            go_upto_region 7 with (at_builtin; refine wpList_append_own_at _ rfl _ _ 24 rfl base 49 i0 (.agg #[.int .i64 0, .int .i64 0]) 2 16 Try.underlying24 hi hz0 hz1 hz2 rfl (by decide) _ n (ptCells L) rfl (hrwW.out.drew.alloc _) ⟨W.drew.heap.size, 0, none⟩ 1 1 [.int .i64 x, .int .i64 y] rfl rfl (cell_pt2 _ _ _ _) (fun u hu => by simp at hu; rcases hu with rfl | rfl <;> rfl) (by unfold maxLen; omega) (by omega) (by simp; omega) ?_; intro v3 w3 hown3 hgrow _ hob)
            have hL1 : (L ++ [(⟨x, y⟩ : Pt)]).length = n + 1 := by rw [List.length_append, hnH.out]; rfl
            rw [show ptCells L ++ [Value.int .i64 x, Value.int .i64 y] = ptCells (L ++ [⟨x, y⟩]) from (ptCells_snoc L ⟨x, y⟩).symm] at hown3
            obtain ⟨b3, cap3, rfl⟩ := ownsRow_succ hown3
            have hne3 : b3 ≠ w.heap.size := by
              rcases hob with h | h
              · have := (hownbH.out b3 h.symm).2; omega
              · injection h with h; simp at h; omega
            have hlt3 := hown3.lt b3 rfl
            have hfar : Below base w w3 := by
              refine ((((bl_dr hbW.out).mono hbase).alloc (by simp; omega) _).grown hgrow (by simp; omega) (fun b' hb' => (hownbH.out b' hb').1))
            have u0 : w3.cell? ⟨w.heap.size, 0, none⟩ = some (.int .i64 x) := (World.cell?_of_block (a := ⟨w.heap.size, 0, none⟩) (hgrow.block w.heap.size (by simp; omega) (fun hh => by have := hownbH.out _ hh.symm; omega))).trans (by go_simp)
            have u1 : w3.cell? ⟨w.heap.size, 1, none⟩ = some (.int .i64 y) := (World.cell?_of_block (a := ⟨w.heap.size, 1, none⟩) (hgrow.block w.heap.size (by simp; omega) (fun hh => by have := hownbH.out _ hh.symm; omega))).trans (by go_simp)
            have s3 : w.heap.size < w3.heap.size := Nat.lt_of_lt_of_le hsW (by have := hgrow.size; simp at this; omega)
            have hownH3 := Lib.hid hown3
            have hnk : Hid (∀ k, k < w.heap.size → some k ≠ ob → k ≠ b3) := Lib.hid (fun k hk hne hc => by
              rcases hob with h | h
              · exact hne (by rw [hc]; exact h.trans hobH.out)
              · injection h with h; simp at h; omega)
            have hkp : KpW ob w.heap.size w w3 := (KpW.of_below ((bl_dr hbW.out).alloc (by simp; omega) _)).grown (by simp; omega) (by rw [← hobH.out]; exact hgrow)
            have hfarH := Lib.hid (And.intro hfar hkp)
            have hwn : IntKind.i64.wrap (n : Int) = (n : Int) := wrap_in (by omega) (by omega)
            generalize hN1 : n + 1 = N1 at *
            have hN1m : (N1 : Int) - 1 = (n : Int) := by omega
            clear hown3 hfar hkp hgrow hob z0 z1
            go_wp2
            go_loopg [6] (n - g) (fun gg c wx => ∃ (i : Nat) (ys : List Pt), i = gg + g ∧ c = .int .i64 (i : Int) ∧ i ≤ n ∧ Hid (ys.length = N1 ∧ (∀ j, j < i → ys[j]? = L[j]?) ∧ (∀ j, i < j → j ≤ n → ys[j]? = L[j - 1]?)) ∧ Hid (wx.ownsRow base 49 2 (.slice (some ⟨b3, 0, none⟩) N1 cap3) N1 (ptCells ys)) ∧ Hid (Below base w wx ∧ KpW ob w.heap.size w wx) ∧ wx.cell? ⟨w.heap.size, 0, none⟩ = some (.int .i64 x) ∧ wx.cell? ⟨w.heap.size, 1, none⟩ = some (.int .i64 y) ∧ w.heap.size < wx.heap.size ∧ b3 < wx.heap.size)
            case atStart => exact ⟨n, L ++ [⟨x, y⟩], by omega, by go_num, Nat.le_refl _, Lib.hid ⟨hL1, fun j hj => List.getElem?_append_left (by rw [hnH.out]; exact hj), fun j h1 h2 => by omega⟩, hownH3, hfarH, u0, u1, s3, hlt3.2⟩
            case round =>
              obtain ⟨i, ys, hi2, rfl, hin, hys, hrx, hbx, y0, y1, hsx, hbx3⟩ := hrel
              have hi2H := Lib.hid hi2
              clear hi2
              clear u0 u1
              have n1 : ¬ b3 = w.heap.size := hne3
              have n2 : ¬ w.heap.size = b3 := fun h => hne3 h.symm
              by_cases hig : g < i
              · have higI : (g : Int) < (i : Int) := by omega
                obtain ⟨i', hi'⟩ : ∃ i', i = i' + 1 := ⟨i - 1, by omega⟩
                have him : (i : Int) - 1 = (i' : Int) := by omega
                have hwi : IntKind.i64.wrap (i' : Int) = (i' : Int) := wrap_in (by omega) (by omega)
                have hl1 : i < N1 := by omega
                have hl2 : i' < N1 := by omega
                have hl3 : (i : Int) < (N1 : Int) := by omega
                have hl4 : (i' : Int) < (N1 : Int) := by omega
                obtain ⟨e3, he3⟩ : ∃ e, ys[i']? = some e := ⟨_, List.getElem?_eq_getElem (by rw [hys.out.1]; omega)⟩
                obtain ⟨p0, p1⟩ := ptCells_get ys i' e3 he3
                have c0 := (hrx.out.cellAt (i' * 2) (by omega)).trans p0
                have c1 := (hrx.out.cellAt (i' * 2 + 1) (by omega)).trans p1
                have f0 := hrx.out.frozenAt (i * 2)
                have f1 := hrx.out.frozenAt (i * 2 + 1)
                obtain ⟨eo, heo⟩ : ∃ e, ys[i]? = some e := ⟨_, List.getElem?_eq_getElem (by rw [hys.out.1]; omega)⟩
                obtain ⟨r0, r1⟩ := ptCells_get ys i eo heo
                have d0 := (hrx.out.cellAt (i * 2) (by omega)).trans r0
                have d1 := (hrx.out.cellAt (i * 2 + 1) (by omega)).trans r1
                clear r0 r1 heo
                have he3H := Lib.hid he3
                have hi'H := Lib.hid hi'
                clear p0 p1 he3 hi'
                go_wp2
                go_roundg (i' - g)
                case measure => have := hi'H.out; have := hi2H.out; omega
                case rel => exact ⟨i', ys.set i ⟨e3.x, e3.y⟩, by have := hi'H.out; have := hi2H.out; omega, by go_num, by omega, Lib.hid ⟨by rw [List.length_set]; exact hys.out.1, fun j hj => by
                    have := hi'H.out
                    rw [List.getElem?_set_ne (by omega)]; exact hys.out.2.1 j (by omega), fun j h1 h2 => by
                    have := hi'H.out
                    rcases Nat.lt_or_ge i j with h3 | h3
                    · rw [List.getElem?_set_ne (by omega)]; exact hys.out.2.2 j h3 h2
                    · obtain rfl : j = i := by omega
                      rw [List.getElem?_set_self (by rw [hys.out.1]; omega), ← hys.out.2.1 (j - 1) (by omega), show j - 1 = i' by omega, he3H.out]⟩, Lib.hid (by
                    rw [← ptCells_set ys i e3.x e3.y (by rw [hys.out.1]; omega)]
                    exact ((hrx.out.stored (i * 2) _).1.stored (i * 2 + 1) _).1), Lib.hid ⟨(hbx.out.1.setCell (p := ⟨b3, i * 2, none⟩) hlt3.1 _).setCell (p := ⟨b3, i * 2 + 1, none⟩) hlt3.1 _, (hbx.out.2.set hnk.out _).set hnk.out _⟩, by go_simp, by go_simp, by simp; omega, by simp; omega⟩
              · obtain rfl : i = g := by have := hi2H.out; omega
                have hl1 : i < N1 := by omega
                have hl3 : (i : Int) < (N1 : Int) := by omega
                have f0 := hrx.out.frozenAt (i * 2)
                have f1 := hrx.out.frozenAt (i * 2 + 1)
                obtain ⟨eo, heo⟩ : ∃ e, ys[i]? = some e := ⟨_, List.getElem?_eq_getElem (by rw [hys.out.1]; omega)⟩
                obtain ⟨r0, r1⟩ := ptCells_get ys i eo heo
                have d0 := (hrx.out.cellAt (i * 2) (by omega)).trans r0
                have d1 := (hrx.out.cellAt (i * 2 + 1) (by omega)).trans r1
                clear r0 r1 heo
                have hsh := Lib.hid (putP_shift (x := x) (y := y) (by rw [hnH.out]; exact hgn) (by rw [hnH.out]; exact hys.out.1.trans hN1.symm) hys.out.2.1 (by rw [hnH.out]; exact hys.out.2.2))
                have hres := Lib.hid (show ptCells (putP L x y) = ((ptCells ys).set (i * 2) (.int .i64 x)).set (i * 2 + 1) (.int .i64 y) by rw [ptCells_set ys i x y (by rw [hys.out.1]; omega), hsh.out, hPN.out])
                have hlen := Lib.hid (show (putP L x y).length = N1 by rw [hPN.out, ← hsh.out, List.length_set]; exact hys.out.1)
                go_wp2
                go_ret
                exact ⟨_, rfl, by rw [hres.out, hlen.out]; exact ((hrx.out.stored (i * 2) _).1.stored (i * 2 + 1) _).1, (hbx.out.1.setCell (p := ⟨b3, i * 2, none⟩) hlt3.1 _).setCell (p := ⟨b3, i * 2 + 1, none⟩) hlt3.1 _, (hbx.out.2.set hnk.out _).set hnk.out _, fun k h1 h2 h3 => hnk.out k h1 h2 (by injection h3)⟩
          · have hgnI : (g : Int) < (n : Int) := by omega
            have hrwW2 := hrwW.out
            obtain ⟨b2, hv, hb1, hb2⟩ := row_block hrwW.out (by omega)
            cases hv
            obtain ⟨p0, p1⟩ := ptCells_get L g _ he2
            have c0 := (hrwW.out.cellAt (g * 2) (by omega)).trans p0
            have c1 := (hrwW.out.cellAt (g * 2 + 1) (by omega)).trans p1
            clear p0 p1 he2 hrwW2
            rcases hne with hne | ⟨hne, hne2⟩
            all_goals
              refine wp_region_ord [(0, .q), (1, .q), (2, .q), (3, .q), (4, .q), (5, .q), (6, .q), (7, .q), (8, .q), (9, .q), (10, .q), (11, .q)] (by kernel_rfl) (by kernel_rfl) ?_
              simp only [pick, List.filterMap_cons, List.filterMap_nil, List.getElem?_toArray, List.getElem?_cons_zero, List.getElem?_cons_succ, Option.map_some]
              repeat (first
                | ((with_reducible refine wpD_p (fun K hK => ?_)); go_simp; refine hK _ ?_; clear hK K)
                | ((with_reducible refine wpD_q (fun K hK => ?_)); go_simp; (first | refine hK _ ?_ | (go_bits; refine hK _ ?_) | (go_bits; go_simp; refine hK _ ?_)); clear hK K)
                | ((with_reducible refine wpD_g (fun K hK => ?_)); go_simp; refine hK _ _ ?_; clear hK K)
                | ((with_reducible refine wpD_g (fun K hK => ?_)); go_simp; refine ⟨Grew.of_alloc _, hK _ _ ?_⟩; clear hK K)
                | ((with_reducible refine wpD_g (fun K hK => ?_)); go_simp; refine ⟨Below.refl _ _, hK _ _ ?_⟩; clear hK K))
              with_reducible refine wpD_nil ?_
              clear c0 c1
              go_upto_region 7 with (at_builtin; refine wpList_append_own_at _ rfl _ _ 24 rfl base 49 i0 (.agg #[.int .i64 0, .int .i64 0]) 2 16 Try.underlying24 hi hz0 hz1 hz2 rfl (by decide) _ n (ptCells L) rfl (hrwW.out.drew.alloc _) ⟨W.drew.heap.size, 0, none⟩ 1 1 [.int .i64 x, .int .i64 y] rfl rfl (cell_pt2 _ _ _ _) (fun u hu => by simp at hu; rcases hu with rfl | rfl <;> rfl) (by unfold maxLen; omega) (by omega) (by simp; omega) ?_; intro v3 w3 hown3 hgrow _ hob)
              have hL1 : (L ++ [(⟨x, y⟩ : Pt)]).length = n + 1 := by rw [List.length_append, hnH.out]; rfl
              rw [show ptCells L ++ [Value.int .i64 x, Value.int .i64 y] = ptCells (L ++ [⟨x, y⟩]) from (ptCells_snoc L ⟨x, y⟩).symm] at hown3
              obtain ⟨b3, cap3, rfl⟩ := ownsRow_succ hown3
              have hne3 : b3 ≠ w.heap.size := by
                rcases hob with h | h
                · have := (hownbH.out b3 h.symm).2; omega
                · injection h with h; simp at h; omega
              have hlt3 := hown3.lt b3 rfl
              have hfar : Below base w w3 := by
                refine ((((bl_dr hbW.out).mono hbase).alloc (by simp; omega) _).grown hgrow (by simp; omega) (fun b' hb' => (hownbH.out b' hb').1))
              have u0 : w3.cell? ⟨w.heap.size, 0, none⟩ = some (.int .i64 x) := (World.cell?_of_block (a := ⟨w.heap.size, 0, none⟩) (hgrow.block w.heap.size (by simp; omega) (fun hh => by have := hownbH.out _ hh.symm; omega))).trans (by go_simp)
              have u1 : w3.cell? ⟨w.heap.size, 1, none⟩ = some (.int .i64 y) := (World.cell?_of_block (a := ⟨w.heap.size, 1, none⟩) (hgrow.block w.heap.size (by simp; omega) (fun hh => by have := hownbH.out _ hh.symm; omega))).trans (by go_simp)
              have s3 : w.heap.size < w3.heap.size := Nat.lt_of_lt_of_le hsW (by have := hgrow.size; simp at this; omega)
              have hownH3 := Lib.hid hown3
              have hnk : Hid (∀ k, k < w.heap.size → some k ≠ ob → k ≠ b3) := Lib.hid (fun k hk hne hc => by
                rcases hob with h | h
                · exact hne (by rw [hc]; exact h.trans hobH.out)
                · injection h with h; simp at h; omega)
              have hkp : KpW ob w.heap.size w w3 := (KpW.of_below ((bl_dr hbW.out).alloc (by simp; omega) _)).grown (by simp; omega) (by rw [← hobH.out]; exact hgrow)
              have hfarH := Lib.hid (And.intro hfar hkp)
              have hwn : IntKind.i64.wrap (n : Int) = (n : Int) := wrap_in (by omega) (by omega)
              generalize hN1 : n + 1 = N1 at *
              have hN1m : (N1 : Int) - 1 = (n : Int) := by omega
              clear hown3 hfar hkp hgrow hob z0 z1
              go_wp2
              go_loopg [6] (n - g) (fun gg c wx => ∃ (i : Nat) (ys : List Pt), i = gg + g ∧ c = .int .i64 (i : Int) ∧ i ≤ n ∧ Hid (ys.length = N1 ∧ (∀ j, j < i → ys[j]? = L[j]?) ∧ (∀ j, i < j → j ≤ n → ys[j]? = L[j - 1]?)) ∧ Hid (wx.ownsRow base 49 2 (.slice (some ⟨b3, 0, none⟩) N1 cap3) N1 (ptCells ys)) ∧ Hid (Below base w wx ∧ KpW ob w.heap.size w wx) ∧ wx.cell? ⟨w.heap.size, 0, none⟩ = some (.int .i64 x) ∧ wx.cell? ⟨w.heap.size, 1, none⟩ = some (.int .i64 y) ∧ w.heap.size < wx.heap.size ∧ b3 < wx.heap.size)
              case atStart => exact ⟨n, L ++ [⟨x, y⟩], by omega, by go_num, Nat.le_refl _, Lib.hid ⟨hL1, fun j hj => List.getElem?_append_left (by rw [hnH.out]; exact hj), fun j h1 h2 => by omega⟩, hownH3, hfarH, u0, u1, s3, hlt3.2⟩
              case round =>
                obtain ⟨i, ys, hi2, rfl, hin, hys, hrx, hbx, y0, y1, hsx, hbx3⟩ := hrel
                have hi2H := Lib.hid hi2
                clear hi2
                clear u0 u1
                have n1 : ¬ b3 = w.heap.size := hne3
                have n2 : ¬ w.heap.size = b3 := fun h => hne3 h.symm
                by_cases hig : g < i
                · have higI : (g : Int) < (i : Int) := by omega
                  obtain ⟨i', hi'⟩ : ∃ i', i = i' + 1 := ⟨i - 1, by omega⟩
                  have him : (i : Int) - 1 = (i' : Int) := by omega
                  have hwi : IntKind.i64.wrap (i' : Int) = (i' : Int) := wrap_in (by omega) (by omega)
                  have hl1 : i < N1 := by omega
                  have hl2 : i' < N1 := by omega
                  have hl3 : (i : Int) < (N1 : Int) := by omega
                  have hl4 : (i' : Int) < (N1 : Int) := by omega
                  obtain ⟨e3, he3⟩ : ∃ e, ys[i']? = some e := ⟨_, List.getElem?_eq_getElem (by rw [hys.out.1]; omega)⟩
                  obtain ⟨p0, p1⟩ := ptCells_get ys i' e3 he3
                  have c0 := (hrx.out.cellAt (i' * 2) (by omega)).trans p0
                  have c1 := (hrx.out.cellAt (i' * 2 + 1) (by omega)).trans p1
                  have f0 := hrx.out.frozenAt (i * 2)
                  have f1 := hrx.out.frozenAt (i * 2 + 1)
                  obtain ⟨eo, heo⟩ : ∃ e, ys[i]? = some e := ⟨_, List.getElem?_eq_getElem (by rw [hys.out.1]; omega)⟩
                  obtain ⟨r0, r1⟩ := ptCells_get ys i eo heo
                  have d0 := (hrx.out.cellAt (i * 2) (by omega)).trans r0
                  have d1 := (hrx.out.cellAt (i * 2 + 1) (by omega)).trans r1
                  clear r0 r1 heo
                  have he3H := Lib.hid he3
                  have hi'H := Lib.hid hi'
                  clear p0 p1 he3 hi'
                  go_wp2
                  go_roundg (i' - g)
                  case measure => have := hi'H.out; have := hi2H.out; omega
                  case rel => exact ⟨i', ys.set i ⟨e3.x, e3.y⟩, by have := hi'H.out; have := hi2H.out; omega, by go_num, by omega, Lib.hid ⟨by rw [List.length_set]; exact hys.out.1, fun j hj => by
                      have := hi'H.out
                      rw [List.getElem?_set_ne (by omega)]; exact hys.out.2.1 j (by omega), fun j h1 h2 => by
                      have := hi'H.out
                      rcases Nat.lt_or_ge i j with h3 | h3
                      · rw [List.getElem?_set_ne (by omega)]; exact hys.out.2.2 j h3 h2
                      · obtain rfl : j = i := by omega
                        rw [List.getElem?_set_self (by rw [hys.out.1]; omega), ← hys.out.2.1 (j - 1) (by omega), show j - 1 = i' by omega, he3H.out]⟩, Lib.hid (by
                      rw [← ptCells_set ys i e3.x e3.y (by rw [hys.out.1]; omega)]
                      exact ((hrx.out.stored (i * 2) _).1.stored (i * 2 + 1) _).1), Lib.hid ⟨(hbx.out.1.setCell (p := ⟨b3, i * 2, none⟩) hlt3.1 _).setCell (p := ⟨b3, i * 2 + 1, none⟩) hlt3.1 _, (hbx.out.2.set hnk.out _).set hnk.out _⟩, by go_simp, by go_simp, by simp; omega, by simp; omega⟩
                · obtain rfl : i = g := by have := hi2H.out; omega
                  have hl1 : i < N1 := by omega
                  have hl3 : (i : Int) < (N1 : Int) := by omega
                  have f0 := hrx.out.frozenAt (i * 2)
                  have f1 := hrx.out.frozenAt (i * 2 + 1)
                  obtain ⟨eo, heo⟩ : ∃ e, ys[i]? = some e := ⟨_, List.getElem?_eq_getElem (by rw [hys.out.1]; omega)⟩
                  obtain ⟨r0, r1⟩ := ptCells_get ys i eo heo
                  have d0 := (hrx.out.cellAt (i * 2) (by omega)).trans r0
                  have d1 := (hrx.out.cellAt (i * 2 + 1) (by omega)).trans r1
                  clear r0 r1 heo
                  have hsh := Lib.hid (putP_shift (x := x) (y := y) (by rw [hnH.out]; exact hgn) (by rw [hnH.out]; exact hys.out.1.trans hN1.symm) hys.out.2.1 (by rw [hnH.out]; exact hys.out.2.2))
                  have hres := Lib.hid (show ptCells (putP L x y) = ((ptCells ys).set (i * 2) (.int .i64 x)).set (i * 2 + 1) (.int .i64 y) by rw [ptCells_set ys i x y (by rw [hys.out.1]; omega), hsh.out, hPN.out])
                  have hlen := Lib.hid (show (putP L x y).length = N1 by rw [hPN.out, ← hsh.out, List.length_set]; exact hys.out.1)
                  go_wp2
                  go_ret
                  exact ⟨_, rfl, by rw [hres.out, hlen.out]; exact ((hrx.out.stored (i * 2) _).1.stored (i * 2 + 1) _).1, (hbx.out.1.setCell (p := ⟨b3, i * 2, none⟩) hlt3.1 _).setCell (p := ⟨b3, i * 2 + 1, none⟩) hlt3.1 _, (hbx.out.2.set hnk.out _).set hnk.out _, fun k h1 h2 h3 => hnk.out k h1 h2 (by injection h3)⟩
theorem l08PutPoint_any {base : Nat} {v : Value} {L : List Pt} {x y : Int} {w : World} (hrow : w.ownsRow base 49 2 v L.length (ptCells L)) (hbase : base ≤ w.heap.size) (hL : L.length ≤ 1000000) :
    Calls Try.prog 42 #[v, .agg #[.int .i64 x, .int .i64 y]] w fun e w' => ∃ v', e = .returned v' ∧ w'.ownsRow base 49 2 v' (putP L x y).length (ptCells (putP L x y)) ∧ Below base w w' := by
  refine (l08PutPoint_kp hrow hbase hL).mono ?_
  rintro e w' ⟨v', rfl, h1, h2, _⟩
  exact ⟨v', rfl, h1, h2⟩
end Go.Proofs.Ytkppijcjmhkkkaa
/- Walks: the harness' marks. -/



namespace Go.Proofs.Ytkppijcjmhkkkaa
open Go.RowKit
attribute [local go_sem] BelowBy.cell BelowBy.cell_drew stillUpon givesUpon

/-- what a mark leaves -/
def MkRes (lo hi : Nat) (w : World) (r : Nat) (e : Ending) (w' : World) : Prop := e = .returned (.int .i64 (r : Int)) ∧ Mk lo hi w w'
def MkRes2 (lo hi : Nat) (w : World) (k top : Nat) (e : Ending) (w' : World) : Prop := ∃ r : Nat, e = .returned (.int .i64 (r : Int)) ∧ k ≤ r ∧ r ≤ top ∧ Mk lo hi w w'
/-- markText -/
def digB (j : Nat) : UInt8 := UInt8.ofNat (48 + j % 10)
def mkDig : Nat → Nat → ByteArray → ByteArray
  | 0, _, s => s
  | f + 1, j, s => if j = 0 then s else mkDig f (j / 10) (⟨[digB j].toArray⟩ ++ s)
def markS (k : Nat) : ByteArray := if k = 0 then ⟨#[109, 48]⟩ else ⟨#[109]⟩ ++ mkDig (k + 1) k ⟨#[]⟩
theorem mkDig_zero (f : Nat) (s : ByteArray) : mkDig f 0 s = s := by cases f <;> simp [mkDig]
theorem mkDig_pos (f j : Nat) (s : ByteArray) (hj : 0 < j) : mkDig (f + 1) j s = mkDig f (j / 10) (⟨[digB j].toArray⟩ ++ s) := by
  simp only [mkDig]; rw [if_neg (by omega)]
theorem size_snoc1 (u : UInt8) (s : ByteArray) : ((⟨[u].toArray⟩ : ByteArray) ++ s).size = s.size + 1 := by
  rw [ByteArray.size_append]; show 1 + s.size = _; omega
theorem run_digit (t t9 u : TypeId) (ht : Try.prog.underlying t = some (.slice u)) (hu : Try.prog.underlying u = some (.int .u8)) (h9 : Try.prog.underlying t9 = some .string) (j : Nat) (W : World) :
    (convert t t9 (.slice (some ⟨W.heap.size, 0, none⟩) 1 1)).run Try.prog (W.alloc (.cells #[.int .u8 (48 + (j : Int) % 10)] u)) = .ok (.string ⟨[digB j].toArray⟩) (W.alloc (.cells #[.int .u8 (48 + (j : Int) % 10)] u)) := by
  have := run_convert_bytes_back (P := Try.prog) (W.alloc (.cells #[.int .u8 (48 + (j : Int) % 10)] u)) t t9 u ⟨W.heap.size, 0, none⟩ 1 [digB j] ht hu h9 (fun i hi => by
    obtain rfl : i = 0 := by simpa using hi
    simp [Addr.add, digB]
    omega)
  exact this
def MarkT (w : World) (k : Nat) (e : Ending) (w' : World) : Prop := e = .returned (.string (markS k)) ∧ Below w.heap.size w w'
end Go.Proofs.Ytkppijcjmhkkkaa
/- Walks: the harness' marks on slices of structs of numbers, what they leave, and what 'held' says of it. -/


namespace Go.Proofs.Ytkppijcjmhkkkaa
open Go.RowKit
attribute [local go_sem] BelowBy.cell BelowBy.cell_drew stillUpon givesUpon

/-- the cells bear the numbers from k on -/
def Marked (T : TypeId) (size lo hi : Nat) (w : World) (A : Option Addr) (n k : Nat) : Prop :=
  0 < n → ∃ g N f, A = some ⟨g, 0, none⟩ ∧ lo ≤ g ∧ g < hi ∧ w.rowIs g T N f ∧ n * size ≤ N ∧ ∀ j, j < n * size → f j = .int .i64 ((k + j : Nat) : Int)
theorem Marked.keep {T : TypeId} {size lo hi k : Nat} {w w' : World} {A : Option Addr} {n : Nat} (h : Marked T size lo hi w A n k) (hk : ∀ k, lo ≤ k → k < hi → w'.heap[k]? = w.heap[k]?) : Marked T size lo hi w' A n k := fun hn => by
  obtain ⟨g, N, f, h1, h2, h3, h4, h5, h6⟩ := h hn
  exact ⟨g, N, f, h1, h2, h3, h4.of_block (hk g h2 h3), h5, h6⟩
theorem Marked.below {T : TypeId} {size lo hi k : Nat} {w w' : World} {A : Option Addr} {n : Nat} (h : Marked T size lo hi w A n k) (hb : Below w.heap.size w w') (hh : hi ≤ w.heap.size) : Marked T size lo hi w' A n k := h.keep fun k _ h2 => hb.block k (by omega)
def MkCore (T : TypeId) (size g N n k : Nat) (w : World) (r : Nat) (e : Ending) (w' : World) : Prop := e = .returned (.int .i64 (r : Int)) ∧ Mk g (g + 1) w w' ∧ ∃ f, w'.rowIs g T N f ∧ ∀ j, j < n * size → f j = .int .i64 ((k + j : Nat) : Int)
def MkResC (T : TypeId) (size lo hi : Nat) (A : Option Addr) (n k : Nat) (w : World) (r : Nat) (e : Ending) (w' : World) : Prop := e = .returned (.int .i64 (r : Int)) ∧ Mk lo hi w w' ∧ Marked T size lo hi w' A n k

end Go.Proofs.Ytkppijcjmhkkkaa
