import Derived.Test.YtpnahobgmemdjaaGAW
import Derived.Test.YtpnahobgmemdjaaGAR
import Derived.Test.YtpnahobgmemdjaaGAD
import Derived.Test.YtpnahobgmemdjaaGAN
import Derived.Lib.LazyBuf
import Derived.Lib.SliceRun
set_option linter.unusedSimpArgs false
set_option linter.unusedVariables false
/- Walks: DecodeBlocks of the program. -/


namespace Go.Proofs.Ytpnahobgmemdjaa
open Go.RowKit Go.Shelf
attribute [local go_sem] BelowBy.cell BelowBy.cell_drew stillUpon givesUpon

/-- the complete of the first j blocks -/
noncomputable def decN (xs : List Pl) (k : Nat) (B : List Pt) (j : Nat) : List Pl := ((B.take j).filter (delC xs k)).map fun b => ⟨b.x, b.y, compI xs k b⟩
noncomputable def decB (xs : List Pl) (k : Nat) : List Pl := decN xs k (blocksP k xs) (blocksP k xs).length
noncomputable def decR (xs : List Pl) (k : Int) : List Pl × Int := if blkCode xs k = 0 then (decB xs k.toNat, 0) else ([], blkCode xs k)
theorem decN_len (xs : List Pl) (k : Nat) (B : List Pt) (j : Nat) : (decN xs k B j).length ≤ j := by
  unfold decN; rw [List.length_map]
  exact Nat.le_trans (List.length_filter_le _ _) (List.length_take_le _ _)
theorem decN_yes {xs : List Pl} {k : Nat} {B : List Pt} {j : Nat} {e : Pt} {r : Int} (he : B[j]? = some e) (hr : compI xs k ⟨e.x, e.y⟩ = r) (h : 0 ≤ r) : decN xs k B (j + 1) = decN xs k B j ++ [⟨e.x, e.y, r⟩] := by
  have hd : delC xs k e = true := by unfold delC; rw [decide_eq_true_eq]; show 0 ≤ compI xs k ⟨e.x, e.y⟩; omega
  unfold decN
  rw [List.take_add_one, he, List.filter_append, List.map_append]
  simp only [Option.toList_some, List.filter_cons, hd, List.filter_nil, if_true, List.map_cons, List.map_nil]
  rw [← hr]
theorem decN_no {xs : List Pl} {k : Nat} {B : List Pt} {j : Nat} {e : Pt} {r : Int} (he : B[j]? = some e) (hr : compI xs k ⟨e.x, e.y⟩ = r) (h : r < 0) : decN xs k B (j + 1) = decN xs k B j := by
  have hd : delC xs k e = false := by unfold delC; rw [decide_eq_false_iff_not]; show ¬ 0 ≤ compI xs k ⟨e.x, e.y⟩; omega
  unfold decN
  rw [List.take_add_one, he, List.filter_append, List.map_append]
  simp [List.filter_cons, hd]
theorem decR_len (xs : List Pl) (k : Int) : (decR xs k).1.length ≤ 500 := by
  unfold decR
  by_cases h : blkCode xs k = 0
  · rw [if_pos h]
    exact Nat.le_trans (decN_len _ _ _ _) (blocksP_len (blkCode_zero h).1 _)
  · rw [if_neg h]; simp
def AgPl (w : World) (l : List Pl) (e : Ending) (w' : World) : Prop :=
  ∃ A c, e = .returned (.agg #[.slice A l.length c]) ∧ w'.ownsRow w.heap.size 38 3 (.slice A l.length c) l.length (plCells l) ∧ Below w.heap.size w w'
set_option maxRecDepth 100000 in
set_option maxHeartbeats 4000000 in
theorem decodeBlocks_any {A : Option Addr} {n c K : Nat} {xs : List Pl} {w : World} (h : RdSl 3 RPl w A n xs) (hf : hasFormB xs = true) (hk : 1 ≤ K ∧ K ≤ 4) :
    Calls Try.prog 56 #[.agg #[.slice A n c], .int .i64 (K : Int)] w (AgPl w (decB xs K)) := by
  obtain ⟨i2, hi2, hz02, hz12, hz22⟩ := info_parts infoPlQ
  have hH := Lib.hid h
  have hfH := Lib.hid hf
  have hkI : 1 ≤ (K : Int) ∧ (K : Int) ≤ 4 := by omega
  have hbl := blocksP_len hf (K : Int)
  have hrg := Lib.hid (fun (b : Pt) hb => blocksP_rng hf (k := (K : Int)) hkI (b := b) hb)
  have hltH := Lib.hid (fun (hn0 : 0 < n) => (h.cells hn0))
  have hR2 : decB xs K = decN xs K (blocksP (K : Int) xs) (blocksP (K : Int) xs).length := rfl
  clear h hf
  go_enter Try.func56, Try.ntmps56
  go_wp2_with fail
  refine (blocks_any (hH.out.below RPl.stable (by exact bel_)) hfH.out hkI).mono ?_
  rintro e w2 ⟨v2, rfl, hown, hb2⟩
  obtain ⟨B, hB⟩ : ∃ B, blocksP (K : Int) xs = B := ⟨_, rfl⟩
  rw [hB] at hown hbl hrg hR2
  obtain ⟨m, hm⟩ : ∃ m, B.length = m := ⟨_, rfl⟩
  rw [hm] at hown hbl hR2
  have hR2H := Lib.hid hR2
  obtain ⟨A2, c2, rfl⟩ := ownsRow_form hown
  have hs2 : w.heap.size + 3 ≤ w2.heap.size := by have := hb2.size; simp at this; omega
  have hrdB := Lib.hid (rdPts hown hm.symm)
  have hneB := Lib.hid (show 0 < m → ∀ b o, A2 = some ⟨b, o, none⟩ → b ≠ w.heap.size + 1 + 1 from fun _ b o e => by
    subst e
    have := (hown.lt b rfl).1
    simp at this
    omega)
  have hneA := Lib.hid (show 0 < n → ∀ b o, A = some ⟨b, o, none⟩ → b ≠ w.heap.size + 1 + 1 from fun hn0 b o he => by
    obtain ⟨b', o', e', hlt, _⟩ := hltH.out hn0
    rw [he] at e'
    injection e' with e'
    injection e' with e1 e2
    omega)
  have a0 : w2.cell? ⟨w.heap.size, 0, none⟩ = some (.slice A n c) := (hb2.cell (p := ⟨w.heap.size, 0, none⟩) (by simp; try omega)).trans (by go_simp)
  have r0 : w2.cell? ⟨w.heap.size + 1, 0, none⟩ = some (.slice none 0 0) := (hb2.cell (p := ⟨w.heap.size + 1, 0, none⟩) (by simp; try omega)).trans (by go_simp)
  have rf : w2.frozen? ⟨w.heap.size + 1, 0, none⟩ = false := (hb2.frozen (p := ⟨w.heap.size + 1, 0, none⟩) (by simp; try omega)).trans (by go_simp)
  have d0 : w2.cell? ⟨w.heap.size + 1 + 1, 0, none⟩ = some (.slice none 0 0) := (hb2.cell (p := ⟨w.heap.size + 1 + 1, 0, none⟩) (by simp; try omega)).trans (by go_simp)
  have df : w2.frozen? ⟨w.heap.size + 1 + 1, 0, none⟩ = false := (hb2.frozen (p := ⟨w.heap.size + 1 + 1, 0, none⟩) (by simp; try omega)).trans (by go_simp)
  have hbw2H := Lib.hid (show Below w.heap.size w w2 by exact bel_)
  have hxs2 := Lib.hid (hH.out.below RPl.stable hbw2H.out)
  have a0H := Lib.hid a0
  have r0H := Lib.hid r0
  have rfH := Lib.hid rf
  clear hb2 hown hm hR2 hB a0 r0 rf
  go_wp2
  go_loopg [13] m (fun g i wr => ∃ (j : Nat) (A3 : Option Addr) (c3 : Nat), j + g = m ∧ i = .int .i64 (j : Int) ∧ Hid (wr.ownsRow w2.heap.size 38 3 (.slice A3 (decN xs K B j).length c3) (decN xs K B j).length (plCells (decN xs K B j))) ∧ wr.cell? ⟨w.heap.size + 1 + 1, 0, none⟩ = some (.slice A3 (decN xs K B j).length c3) ∧ wr.frozen? ⟨w.heap.size + 1 + 1, 0, none⟩ = false ∧ Hid (Gb (w.heap.size + 1 + 1) w2 wr))
  case atStart => exact ⟨0, none, 0, by omega, rfl, Lib.hid (World.ownsRow_nil _ _ _ _), d0, df, Lib.hid (Gb.refl _ _)⟩
  case round =>
    clear d0 df
    obtain ⟨j, A3, c3, hj, rfl, hO, d0, df, hgb⟩ := hrel
    have hszl := hgb.out.size
    have a0 := (hgb.out.cell (o := 0) (show w.heap.size < w2.heap.size by omega) (by omega)).trans a0H.out
    have l0 : w.heap.size < wr.heap.size := by omega
    have l2 : w.heap.size + 1 + 1 < wr.heap.size := by omega
    have hkl := decN_len xs K B j
    by_cases hkn : j < m
    · have hrw := hrdB.out.gbT hneB.out hgb.out
      obtain ⟨bb, ob, rfl, hbb, hbc⟩ := hrw.ptr (by omega)
      obtain ⟨e, he⟩ := hrw.get hkn
      obtain ⟨e0, e1⟩ := hbc j e he
      have hrge := hrg.out e (List.mem_of_getElem? he)
      have hAw := Lib.hid (hxs2.out.gbP hneA.out hgb.out)
      obtain ⟨r, hr⟩ : ∃ r, compI xs K ⟨e.x, e.y⟩ = r := ⟨_, rfl⟩
      have hrH := Lib.hid hr
      clear hbc hrw
      by_cases hneg : r < 0
      · have hnx := Lib.hid (decN_no he hr hneg)
        have hneg' : ¬ 0 ≤ r := by omega
        clear he hr
        go_wp2_with (go_at_call 82; refine (complete_any (hAw.out.below RPl.stable (by exact bel_)) hfH.out hk hrge.1 hrge.2 hrH.out).mono ?_; rintro e' w3 ⟨rfl, hb3⟩; have hb3H := Lib.hid (show Below wr.heap.size wr w3 by exact bel_); clear hb3)
        go_roundg (m - (j + 1))
        case measure => omega
        case rel => exact ⟨j + 1, A3, c3, by omega, by go_num, Lib.hid (by rw [hnx.out]; exact ownsRow_below hO.out hb3H.out), by rw [hnx.out]; exact (hb3H.out.cell (p := ⟨w.heap.size + 1 + 1, 0, none⟩) l2).trans d0, (hb3H.out.frozen (p := ⟨w.heap.size + 1 + 1, 0, none⟩) l2).trans df, Lib.hid (hgb.out.below hb3H.out)⟩
      · have hnx := Lib.hid (decN_yes he hr (by omega))
        have hneg' : 0 ≤ r := by omega
        clear he hr
        obtain ⟨L, hL⟩ : ∃ L, decN xs K B j = L := ⟨_, rfl⟩
        rw [hL] at hO hkl hnx d0
        obtain ⟨q, hq2⟩ : ∃ q, L.length = q := ⟨_, rfl⟩
        rw [hq2] at hO hkl d0
        have hqH := Lib.hid hq2
        clear hL hq2
        go_wp2_with (first
          | (go_at_call 82; refine (complete_any (hAw.out.below RPl.stable (by exact bel_)) hfH.out hk hrge.1 hrge.2 hrH.out).mono ?_; rintro e' w3 ⟨rfl, hb3⟩; have f0 : w3.cell? ⟨wr.heap.size, 0, none⟩ = some (.int .i64 e.x) := (hb3.cell (p := ⟨wr.heap.size, 0, none⟩) (by simp)).trans (by go_simp); have f1 : w3.cell? ⟨wr.heap.size, 1, none⟩ = some (.int .i64 e.y) := (hb3.cell (p := ⟨wr.heap.size, 1, none⟩) (by simp)).trans (by go_simp); have hb3H := Lib.hid (show Below wr.heap.size wr w3 by exact bel_); have hs3 : wr.heap.size < w3.heap.size := (by have := hb3.size; simp at this; omega); have g0 := (hb3H.out.cell (p := ⟨w.heap.size + 1 + 1, 0, none⟩) l2).trans d0; have g1 := (hb3H.out.frozen (p := ⟨w.heap.size + 1 + 1, 0, none⟩) l2).trans df; have l3 : w.heap.size + 1 + 1 < w3.heap.size := (by omega); clear hb3)
          | (at_builtin; refine wpList_append_own_at _ rfl _ _ 24 rfl w2.heap.size 38 i2 (.agg #[.int .i64 0, .int .i64 0, .int .i64 0]) 3 24 Try.underlying24 hi2 hz02 hz12 hz22 rfl (by decide) (.slice A3 q c3) q (plCells L) rfl ((ownsRow_below hO.out hb3H.out).alloc _) ⟨w3.heap.size, 0, none⟩ 1 1 [.int .i64 e.x, .int .i64 e.y, .int .i64 r] rfl rfl (cell_three_new _ _ _ _ _) (fun x hx => by simp at hx; rcases hx with rfl | rfl | rfl <;> rfl) (by unfold maxLen; omega) (by omega) (by simp; omega) ?_; intro v5 w5 hown5 hgrow5 _ hat5; obtain ⟨A5, c5, rfl⟩ := ownsRow_form hown5; have hbX := (hb3H.out.mono (by omega)).trans (below_app (B0 := w2.heap.size) (by omega) (fun g e => (hO.out.lt g e).1) hgrow5); have m2 := (hbX.cell (p := ⟨w.heap.size + 1 + 1, 0, none⟩) (by simp only; omega)).trans d0; have mf := (hbX.frozen (p := ⟨w.heap.size + 1 + 1, 0, none⟩) (by simp only; omega)).trans df; have hG5 := Lib.hid (Gb.app ((hgb.out.below hb3H.out).below (bl_al (bl_refl _) _)) hgrow5 (fun g hg => Or.inr (hO.out.lt g hg).1)); have hown5H := Lib.hid hown5; clear hown5 hgrow5 hat5 hbX))
        go_roundg (m - (j + 1))
        case measure => omega
        case rel =>
          refine ⟨j + 1, A5, c5, by omega, by go_num, Lib.hid ?_, ?_, by go_simp, Lib.hid (hG5.out.set 0 _)⟩
          · rw [hnx.out, plCells_snoc, List.length_append, hqH.out]
            exact ownsRow_setCell_below hown5H.out (by show w.heap.size + 1 + 1 < w2.heap.size; omega) _
          · rw [hnx.out, List.length_append, hqH.out]
            go_simp
    · obtain rfl : j = m := by omega
      have b0 := (hgb.out.cell (o := 0) (show w.heap.size + 1 < w2.heap.size by omega) (by omega)).trans r0H.out
      have b1 : wr.frozen? ⟨w.heap.size + 1, 0, none⟩ = false := (World.frozen?_of_block (w := w2) (hgb.out.block (w.heap.size + 1) (by omega) (by simp))).trans rfH.out
      have l1 : w.heap.size + 1 < wr.heap.size := by omega
      rw [← hR2H.out] at hO d0
      clear a0
      go_wp2
      refine bodyPost_ret (v := .agg #[.slice A3 (decB xs K).length c3]) (by simp only [results, Try.results56]; go_simp) rfl ?_
      refine ⟨A3, c3, rfl, ?_, ?_⟩
      · exact ownsRow_baseQ (ownsRow_setCell_below hO.out (by show w.heap.size + 1 < w2.heap.size; omega) _) (by omega)
      · exact (hbw2H.out.trans (hgb.out.toBelow (by omega) (by omega))).setCell (p := ⟨w.heap.size + 1, 0, none⟩) (by simp) _
end Go.Proofs.Ytpnahobgmemdjaa
/- Walks: with what strength a tile binds at a point, by the program and by the reference. -/

namespace Go.Proofs.Ytpnahobgmemdjaa
open Go.RowKit Go.Shelf
attribute [local go_sem] BelowBy.cell BelowBy.cell_drew stillUpon givesUpon BelowBy.cell_drew2 BelowBy.cell_drew3

theorem bindN_succ_none {gs : List Gl} {ts : List Ti} {xs : List Pl} {x y S : Int} {t k : Nat} (hS : bindN gs ts xs x y t k = S) (h : atI xs (stepX x k) (stepY y k) = -1) : bindN gs ts xs x y t (k + 1) = S := by
  simp only [bindN]; rw [hS, h, if_neg (by decide)]; omega
theorem bindN_succ_some {gs : List Gl} {ts : List Ti} {xs : List Pl} {x y S r : Int} {t k t2 : Nat} (hS : bindN gs ts xs x y t k = S) (h : atI xs (stepX x k) (stepY y k) = t2) (hr : bondI gs ts t k t2 = r) : bindN gs ts xs x y t (k + 1) = S + r := by
  simp only [bindN]; rw [hS, h, if_pos (by omega)]
  have : ((t2 : Nat) : Int).toNat = t2 := by omega
  rw [this, hr]
end Go.Proofs.Ytpnahobgmemdjaa
/- Walks: an assembly copied; moved by a step. -/





namespace Go.Proofs.Ytpnahobgmemdjaa
open Go.RowKit Go.Shelf
attribute [local go_sem] BelowBy.cell BelowBy.cell_drew stillUpon givesUpon BelowBy.cell_drew2 BelowBy.cell_drew3

def mvP (dx dy : Int) (e : Pl) : Pl := ⟨e.x + dx, e.y + dy, e.t⟩
def mvL (dx dy : Int) (xs : List Pl) : List Pl := xs.map (mvP dx dy)
theorem mvL_get {dx dy : Int} {xs : List Pl} {k : Nat} {e : Pl} (h : xs[k]? = some e) : (mvL dx dy xs)[k]? = some (mvP dx dy e) := by
  unfold mvL; rw [List.getElem?_map, h]; rfl
theorem mvL_len (dx dy : Int) (xs : List Pl) : (mvL dx dy xs).length = xs.length := by simp [mvL]
end Go.Proofs.Ytpnahobgmemdjaa
