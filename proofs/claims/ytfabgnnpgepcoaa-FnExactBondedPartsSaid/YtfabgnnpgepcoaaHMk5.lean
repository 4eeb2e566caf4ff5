/- Walks: the harness' marks on sets and assemblies. -/
import Derived.Test.YtfabgnnpgepcoaaHMk4
namespace Go.Proofs.Ytfabgnnpgepcoaa
open Go.RowKit
set_option linter.unusedSimpArgs false
set_option linter.unusedVariables false
attribute [local go_sem] BelowBy.cell BelowBy.cell_drew stillUpon givesUpon

theorem tile_ne_int : (133 : TypeId) ≠ 2 := by decide
theorem rowIs_size {w : World} {g N M : Nat} {T : TypeId} {f f' : Nat → Value} (h : w.rowIs g T N f) (k : w.rowIs g T M f') : N = M := by
  obtain ⟨c, hc, hs, _⟩ := h
  obtain ⟨c', hc', hs', _⟩ := k
  rw [hc] at hc'
  injection hc' with hc'
  injection hc' with hc'
  rw [← hs, ← hs', hc']
theorem MkTiles.mkI {lo hi : Nat} {w w' : World} {A : Option Addr} {m : Nat} (h : MkTiles 133 2 lo hi w A m) {b N' : Nat} {f0 f1 : Nat → Value} (h1 : w.rowIs b 2 N' f0) (h2 : w'.rowIs b 2 N' f1) (hk : ∀ k, k ≠ b → k < w.heap.size → w'.heap[k]? = w.heap[k]?) : MkTiles 133 2 lo hi w' A m := fun hm => by
  obtain ⟨g, N, f, a1, a2, a3, a4, a5, a6⟩ := h hm
  have hgb : g ≠ b := by
    rintro rfl
    obtain ⟨c0, hc0, _⟩ := a4
    obtain ⟨c1, hc1, _⟩ := h1
    rw [hc0] at hc1
    injection hc1 with hc1
    injection hc1 with _ ht
    exact tile_ne_int ht
  refine ⟨g, N, f, a1, a2, a3, a4.of_block (hk g hgb a4.lt), a5, fun k' hk' => ?_⟩
  obtain ⟨A', n', g1, g2, g3⟩ := a6 k' hk'
  refine ⟨A', n', g1, g2, fun hn' => ?_⟩
  obtain ⟨b', M, fb, b1, b2, b3, b4, b5⟩ := g3 hn'
  by_cases e : b' = b
  · subst e
    obtain rfl := rowIs_size h1 b4
    exact ⟨b', _, f1, b1, b2, b3, h2, b5⟩
  · exact ⟨b', M, fb, b1, b2, b3, b4.of_block (hk b' e b4.lt), b5⟩
/-- the marks on one row of a tile's sides -/
def MkSide (lo hi m : Nat) (B : Option Addr) (w : World) (r : Nat) (e : Ending) (w' : World) : Prop := e = .returned (.int .i64 (r : Int)) ∧ Mk lo hi w w' ∧ MkTiles 133 2 lo hi w' B m
theorem markSide_any (A B : Option Addr) (n c k lo hi m : Nat) (w : World) (h : MkRow 2 1 lo hi w A n) (hT : MkTiles 133 2 lo hi w B m) (hk : k + n ≤ 4611686018427387904) :
    Calls Try.prog 29 #[.slice A n c, .int .i64 (k : Int)] w (MkSide lo hi m B w (k + n)) := by
  by_cases hn : n = 0
  · subst hn
    refine (markInt64S_zero A c k w).mono ?_
    rintro e w' ⟨rfl, rfl⟩
    exact ⟨rfl, Mk.refl _ _ _, hT⟩
  · obtain ⟨g, N, f0, rfl, hg1, hg2, hrow0, hN⟩ := h (by omega)
    refine (markInt64S_core g N n c k f0 w hrow0 hN hk).mono ?_
    rintro e w' ⟨he, hm, f, hrow, hcont⟩
    refine ⟨he, hm.weaken hg1 (by omega), hT.mkI hrow0 hrow (fun k hk hk' => ?_)⟩
    rcases Nat.lt_or_ge k g with hlt | hge
    · exact hm.below.block k hlt
    · exact hm.keep k (by omega) hk'
set_option maxRecDepth 100000 in
set_option maxHeartbeats 2000000 in
theorem markTileS_any (A : Option Addr) (n c k lo hi : Nat) (w : World) (h : MkTiles 133 2 lo hi w A n) (hh : hi ≤ w.heap.size) (hl : lo ≤ w.heap.size) (hk : k + 1073741825 * n ≤ 4611686018427387904) :
    Calls Try.prog 80 #[.slice A n c, .int .i64 (k : Int)] w (MkRes2 lo hi w k (k + 1073741825 * n)) := by
  go_enter Try.func80, Try.ntmps80
  go_wp2
  go_loopg [5, 1] n (fun r x kk wr => ∃ (i j0 : Nat), i + r = n ∧ x = .int .i64 (i : Int) ∧ kk = .int .i64 (j0 : Int) ∧ k ≤ j0 ∧ j0 ≤ k + 1073741825 * i ∧ MkTiles 133 2 lo hi wr A n ∧ Mk lo hi w wr)
  case atStart => exact ⟨0, k, by omega, rfl, rfl, Nat.le_refl _, by omega, h, Mk.refl _ _ _⟩
  case round =>
    obtain ⟨i, j0, hi', rfl, rfl, hj1, hj2, hr, hm⟩ := hrel
    by_cases hlt : i < n
    · have hj2H := Lib.hid hj2
      have hki : (0 : Int) ≤ (j0 : Int) := by omega
      have hki2 : (j0 : Int) + 1 < 4611686018427387904 := by omega
      have hj1H := Lib.hid hj1
      have hmH := Lib.hid hm
      have hrH := Lib.hid hr
      have hhw : hi ≤ wr.heap.size := Nat.le_trans hh hm.size
      have hrr := hr (by omega)
      obtain ⟨g, N, f, rfl, hg1, hg2, hrow, hN, _⟩ := hrr
      clear hj2 hj1 hm hr hrow
      go_wp2_with fail
      refine (markText_any j0 (by omega) _).mono ?_
      rintro e w1 ⟨rfl, hb1⟩
      have hr1 := hrH.out.below hb1 hhw
      have hr1H := Lib.hid hr1
      obtain ⟨g', N', f', hA, _, _, hrow, hN', hsd⟩ := hr1 (by omega)
      obtain rfl : g = g' := by simpa using hA
      obtain ⟨A', n', hfk, hn', hside⟩ := hsd i hlt
      have hc0 := hrow.cell (i := i * 2) (by omega)
      have hf0 := hrow.frozen (i * 2)
      have hc1 := hrow.cell (i := i * 2 + 1) (by omega)
      rw [hfk] at hc1
      have hf1 := hrow.frozen (i * 2 + 1)
      have hb1H := Lib.hid hb1
      have hsideH := Lib.hid hside
      have hzs := Lib.hid hb1.size
      clear hrow hr1 hA hb1 hsd hfk hside
      go_wp2_with fail
      have hmA : Mk lo hi w (w1.setCell ⟨g, i * 2, none⟩ (Value.string (markS j0))) := ((hmH.out.bl hb1H.out hl).set (p := ⟨g, i * 2, none⟩) hg1 hg2 _)
      have hrA := hr1H.out.setName tile_ne_int rfl i (Value.string (markS j0))
      have hsA := hsideH.out.set g (i * 2) (Value.string (markS j0))
      refine (markSide_any A' _ n' _ (j0 + 1) lo hi n _ hsA hrA (by have := hj2H.out; omega)).mono ?_
      rintro e w2 ⟨rfl, hm2, hT2⟩
      have hm2H := Lib.hid hm2
      have hT2H := Lib.hid hT2
      have hmAH := Lib.hid hmA
      clear hm2 hT2 hmA hrA hsA
      go_wp2
      go_roundg (n - (i + 1))
      case measure => omega
      case rel => exact ⟨i + 1, j0 + 1 + n', by omega, by go_num, rfl, (by have := hj1H.out; omega), (by have := hj2H.out; omega), hT2H.out, hmAH.out.trans hm2H.out⟩
    · obtain rfl : i = n := by omega
      go_wp2
      go_ret
      exact ⟨j0, rfl, hj1, hj2, hm⟩
theorem rowIs_ne {w : World} {g b N M : Nat} {T U : TypeId} {f f' : Nat → Value} (h : w.rowIs g T N f) (k : w.rowIs b U M f') (hne : T ≠ U) : g ≠ b := by
  rintro rfl
  obtain ⟨c, hc, _⟩ := h
  obtain ⟨c', hc', _⟩ := k
  rw [hc] at hc'
  injection hc' with hc'
  injection hc' with _ ht
  exact hne ht
theorem MkTiles.far {lo hi g N0 : Nat} {w w' : World} {A : Option Addr} {m : Nat} {T : TypeId} {f0 : Nat → Value} (h : MkTiles 133 2 lo hi w A m) (hg : w.rowIs g T N0 f0) (hT : T ≠ 133) (hI : T ≠ 2) (hm : Mk g (g + 1) w w') : MkTiles 133 2 lo hi w' A m := fun h0 => by
  have hk : ∀ k, k ≠ g → k < w.heap.size → w'.heap[k]? = w.heap[k]? := fun k hk hk' => by
    rcases Nat.lt_or_ge k g with hlt | hge
    · exact hm.below.block k hlt
    · exact hm.keep k (by omega) hk'
  obtain ⟨b, N, f, a1, a2, a3, a4, a5, a6⟩ := h h0
  refine ⟨b, N, f, a1, a2, a3, a4.of_block (hk b (Ne.symm (rowIs_ne hg a4 hT)) a4.lt), a5, fun k' hk' => ?_⟩
  obtain ⟨A', n', g1, g2, g3⟩ := a6 k' hk'
  refine ⟨A', n', g1, g2, fun hn' => ?_⟩
  obtain ⟨b', M, fb, b1, b2, b3, b4, b5⟩ := g3 hn'
  exact ⟨b', M, fb, b1, b2, b3, b4.of_block (hk b' (Ne.symm (rowIs_ne hg b4 hI)) b4.lt), b5⟩
theorem glue_ne_tile : (149 : TypeId) ≠ 133 := by decide
theorem glue_ne_int : (149 : TypeId) ≠ 2 := by decide
/-- the marks on the glues leave the tiles as they are -/
theorem markGlues_any (A B : Option Addr) (n c m k lo hi : Nat) (w : World) (h : MkRow 149 2 lo hi w A n) (h2 : MkTiles 133 2 lo hi w B m) (hh : hi ≤ w.heap.size) (hl : lo ≤ w.heap.size) (hk : k + 2 * n ≤ 4611686018427387904) :
    Calls Try.prog 79 #[.slice A n c, .int .i64 (k : Int)] w (MkSide lo hi m B w (k + 2 * n)) := by
  by_cases hn : n = 0
  · refine (markGlueS_any A n c k w.heap.size w.heap.size w (fun h => by omega) (Nat.le_refl _) (Nat.le_refl _) hk).mono ?_
    rintro e w' ⟨he, hm⟩
    exact ⟨he, Mk.of_below hm.below hl, h2.keep fun k _ h3 => hm.below.block k (by omega)⟩
  · obtain ⟨g, N, f0, rfl, hg1, hg2, hrow0, hN⟩ := h (by omega)
    refine (markGlueS_any (some ⟨g, 0, none⟩) n c k g (g + 1) w (fun _ => ⟨g, N, f0, rfl, Nat.le_refl _, by omega, hrow0, hN⟩) hrow0.lt (Nat.le_of_lt hrow0.lt) hk).mono ?_
    rintro e w' ⟨he, hm⟩
    exact ⟨he, hm.weaken hg1 (by omega), h2.far hrow0 glue_ne_tile glue_ne_int hm⟩
set_option maxRecDepth 100000 in
set_option maxHeartbeats 2000000 in
theorem markTileSet_any (A B : Option Addr) (n c m d k lo hi : Nat) (w : World) (h : MkRow 149 2 lo hi w A n) (h2 : MkTiles 133 2 lo hi w B m) (hh : hi ≤ w.heap.size) (hl : lo ≤ w.heap.size) (hk : k + 2 * n + 1073741825 * m ≤ 4611686018427387904) :
    Calls Try.prog 27 #[.agg #[.slice A n c, .slice B m d], .int .i64 (k : Int)] w (MkRes2 lo hi w k (k + 2 * n + 1073741825 * m)) := by
  have ha : Below w.heap.size w (w.alloc (.cells #[.slice A n c, .slice B m d] 37)) := bl_al (bl_refl _) _
  have haH := Lib.hid ha
  have h' := Lib.hid (h.below ha hh)
  have h2' := Lib.hid (h2.below ha hh)
  clear h h2 ha
  go_enter Try.func27, Try.ntmps27
  go_wp2_with fail
  refine (markGlues_any A B n c m k lo hi _ h'.out h2'.out (by simp; omega) (by simp; omega) (by omega)).mono ?_
  rintro e w1 ⟨rfl, hm1, hT1⟩
  have hs1 := hm1.size
  have y1 : w1.cell? ⟨w.heap.size, 1, none⟩ = some (.slice B m d) := (World.cell?_of_block (a := ⟨w.heap.size, 1, none⟩) (hm1.keep w.heap.size hh (by simp))).trans (by go_simp)
  have l1 : w.heap.size < w1.heap.size := by simp at hs1; omega
  have hm1H := Lib.hid hm1
  have hT1H := Lib.hid hT1
  clear hm1 hT1
  go_wp2_with fail
  refine (markTileS_any B m d (k + 2 * n) lo hi _ hT1H.out (by omega) (by omega) (by omega)).mono ?_
  rintro e w2 ⟨r, rfl, hr1, hr2, hm2⟩
  have hm2H := Lib.hid hm2
  clear hm2
  go_wp2
  go_ret
  exact ⟨r, rfl, by omega, hr2, (Mk.of_below haH.out hl).trans (hm1H.out.trans hm2H.out)⟩
theorem markAssembly_any (A : Option Addr) (n c k lo hi : Nat) (w : World) (h : MkRow 112 3 lo hi w A n) (hh : hi ≤ w.heap.size) (hl : lo ≤ w.heap.size) (hk : k + 3 * n ≤ 4611686018427387904) :
    Calls Try.prog 28 #[.agg #[.slice A n c], .int .i64 (k : Int)] w (MkRes lo hi w (k + 3 * n)) := by
  have ha : Below w.heap.size w (w.alloc (.cells #[.slice A n c] 41)) := bl_al (bl_refl _) _
  have haH := Lib.hid ha
  have h' := Lib.hid (h.below ha hh)
  clear h ha
  go_enter Try.func28, Try.ntmps28
  go_wp2_with fail
  refine (markPlacedS_any A n c k lo hi _ h'.out (by simp; omega) (by simp; omega) hk).mono ?_
  rintro e w1 ⟨rfl, hm1⟩
  have hm1H := Lib.hid hm1
  clear hm1
  go_wp2
  go_ret
  exact ⟨rfl, (Mk.of_below haH.out hl).trans hm1H.out⟩
end Go.Proofs.Ytfabgnnpgepcoaa
