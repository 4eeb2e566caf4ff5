import Derived.Test.YtpdpkanlmhigfaaGreatHMk
import Derived.Test.YtpdpkanlmhigfaaGreatKH
import Derived.Test.YtpdpkanlmhigfaaGreatHMr
set_option linter.unusedSimpArgs false
set_option linter.unusedVariables false
/- A block that lies on either side of the marks keeps its cells. -/

namespace Go.Proofs.YtpdpkanlmhigfaaGreat
theorem Mk.either {lo hi k : Nat} {w w' : World} (h : Mk lo hi w w') (hk : k < lo ∨ hi ≤ k) (hlt : k < w.heap.size) : w'.heap[k]? = w.heap[k]? :=
  hk.elim (fun h1 => h.below.block k h1) (fun h1 => h.keep k h1 hlt)
end Go.Proofs.YtpdpkanlmhigfaaGreat
/- Walks: the harness' marks on rows of merges. -/



namespace Go.Proofs.YtpdpkanlmhigfaaGreat
open Go.RowKit
attribute [local go_sem] BelowBy.cell BelowBy.cell_drew stillUpon givesUpon

set_option maxRecDepth 100000 in
set_option maxHeartbeats 2000000 in
theorem markMergeS_zero (A : Option Addr) (c k : Nat) (w : World) :
    Calls Tryz.prog 14 #[.slice A 0 c, .int .i64 (k : Int)] w fun e w' => e = .returned (.int .i64 (k : Int)) ∧ w = w' := by
  go_enter Tryz.func14, Tryz.ntmps14
  go_wp2
  refine wp_loop_rounds 1 ?_
  rw [rounds_succ]
  go_wp2
  go_ret
  exact ⟨rfl, rfl⟩
set_option maxRecDepth 100000 in
set_option maxHeartbeats 2000000 in
theorem markMergeS_core (g N n c k : Nat) (f0 : Nat → Value) (w : World) (hrow0 : w.rowIs g 58 N f0) (hN : n * 4 ≤ N) (hk : k + 4 * n ≤ 4611686018427387904) :
    Calls Tryz.prog 14 #[.slice (some ⟨g, 0, none⟩) n c, .int .i64 (k : Int)] w (MkCore 58 4 g N n k w (k + 4 * n)) := by
  have hg1 : g ≤ g := Nat.le_refl _
  have hg2 : g < g + 1 := Nat.lt_succ_self _
  go_enter Tryz.func14, Tryz.ntmps14
  go_wp2
  go_loopg [5, 1] n (fun r x kk wr => ∃ (i : Nat) (f : Nat → Value), i + r = n ∧ x = .int .i64 (i : Int) ∧ kk = .int .i64 ((k + 4 * i : Nat) : Int) ∧ wr.rowIs g 58 N f ∧ (∀ j, j < i * 4 → f j = .int .i64 ((k + j : Nat) : Int)) ∧ Mk g (g + 1) w wr)
  case atStart => exact ⟨0, f0, by omega, rfl, rfl, hrow0, fun j hj => by omega, Mk.refl _ _ _⟩
  case round =>
    obtain ⟨i, f, hi', rfl, rfl, hrow, hcont, hm⟩ := hrel
    have hcontH := Lib.hid hcont
    have hmH := Lib.hid hm
    clear hcont hm
    by_cases hlt : i < n
    · obtain ⟨j0, hj⟩ : ∃ j0, j0 = k + 4 * i := ⟨_, rfl⟩
      have hki : (0 : Int) ≤ (j0 : Int) := by omega
      have hki2 : (j0 : Int) + 4 < 4611686018427387910 := by omega
      have hjH := Lib.hid hj
      rw [← hj]
      clear hj
      have hc0 := hrow.cell (i := i * 4) (by omega)
      have hf0 := hrow.frozen (i * 4)
      have hc1 := hrow.cell (i := i * 4 + 1) (by omega)
      have hf1 := hrow.frozen (i * 4 + 1)
      have hc2 := hrow.cell (i := i * 4 + 2) (by omega)
      have hf2 := hrow.frozen (i * 4 + 2)
      have hc3 := hrow.cell (i := i * 4 + 3) (by omega)
      have hf3 := hrow.frozen (i * 4 + 3)
      have hrowH := Lib.hid hrow
      clear hrow
      go_wp2
      go_roundg (n - (i + 1))
      case measure => omega
      case rel => exact ⟨i + 1, _, by omega, by go_num, by (have := hjH.out; rw [show k + 4 * (i + 1) = j0 + 1 + 1 + 1 + 1 by omega]; go_num), ((((hrowH.out.set (i * 4) _).set (i * 4 + 1) _).set (i * 4 + 2) _).set (i * 4 + 3) _), fun j hj => (by
        have hcont := hcontH.out
        have h0 := hjH.out
        rcases (show j < i * 4 ∨ j = i * 4 ∨ j = i * 4 + 1 ∨ j = i * 4 + 2 ∨ j = i * 4 + 3 by omega) with hjj | hjj | hjj | hjj | hjj
        · rw [if_neg (by omega), if_neg (by omega), if_neg (by omega), if_neg (by omega)]; exact hcont j hjj
        · rw [if_neg (by omega), if_neg (by omega), if_neg (by omega), if_pos (by omega)]; exact congrArg (Value.int IntKind.i64) (by have := hjH.out; omega)
        · rw [if_neg (by omega), if_neg (by omega), if_pos (by omega)]; exact congrArg (Value.int IntKind.i64) (by have := hjH.out; omega)
        · rw [if_neg (by omega), if_pos (by omega)]; exact congrArg (Value.int IntKind.i64) (by have := hjH.out; omega)
        · rw [if_pos (by omega)]; exact congrArg (Value.int IntKind.i64) (by have := hjH.out; omega)), (((((hmH.out).set (p := ⟨g, i * 4, none⟩) hg1 hg2 _).set (p := ⟨g, i * 4 + 1, none⟩) hg1 hg2 _).set (p := ⟨g, i * 4 + 2, none⟩) hg1 hg2 _).set (p := ⟨g, i * 4 + 3, none⟩) hg1 hg2 _)⟩
    · obtain rfl : i = n := by omega
      go_wp2
      go_ret
      exact ⟨rfl, hmH.out, f, hrow, hcontH.out⟩
theorem markMergeS_c (A : Option Addr) (n c k lo hi : Nat) (w : World) (h : MkRow 58 4 lo hi w A n) (hh : hi ≤ w.heap.size) (hl : lo ≤ w.heap.size) (hk : k + 4 * n ≤ 4611686018427387904) :
    Calls Tryz.prog 14 #[.slice A n c, .int .i64 (k : Int)] w (MkResC 58 4 lo hi A n k w (k + 4 * n)) := by
  by_cases hn : n = 0
  · subst hn
    refine (markMergeS_zero A c k w).mono ?_
    rintro e w' ⟨rfl, rfl⟩
    exact ⟨rfl, Mk.refl _ _ _, fun h => by omega⟩
  · obtain ⟨g, N, f0, rfl, hg1, hg2, hrow0, hN⟩ := h (by omega)
    refine (markMergeS_core g N n c k f0 w hrow0 hN hk).mono ?_
    rintro e w' ⟨he, hm, f, hrow, hcont⟩
    exact ⟨he, hm.weaken hg1 (by omega), fun _ => ⟨g, N, f, rfl, hg1, hg2, hrow, hN, hcont⟩⟩
theorem markMergeS_any (A : Option Addr) (n c k lo hi : Nat) (w : World) (h : MkRow 58 4 lo hi w A n) (hh : hi ≤ w.heap.size) (hl : lo ≤ w.heap.size) (hk : k + 4 * n ≤ 4611686018427387904) :
    Calls Tryz.prog 14 #[.slice A n c, .int .i64 (k : Int)] w (MkRes lo hi w (k + 4 * n)) :=
  (markMergeS_c A n c k lo hi w h hh hl hk).mono fun _ _ h => ⟨h.1, h.2.1⟩

theorem markMergeS_any2 (A : Option Addr) (n c k lo hi : Nat) (w : World) (h : MkRow 58 4 lo hi w A n) (hh : hi ≤ w.heap.size) (hl : lo ≤ w.heap.size) (hk : k + 4 * n ≤ 4611686018427387904) :
    Calls Tryz.prog 14 #[.slice A n c, .int .i64 (k : Int)] w (MkRes2 lo hi w k (k + 4 * n)) :=
  (markMergeS_any A n c k lo hi w h hh hl hk).mono fun _ _ h => ⟨_, h.1, by omega, Nat.le_refl _, h.2⟩
end Go.Proofs.YtpdpkanlmhigfaaGreat
