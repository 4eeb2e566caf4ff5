/- Walks: the harness' marks on slices, sets, assemblies. -/
import Derived.Test.YtfabgnnpgepcoaaHMk2
import Derived.Test.YtfabgnnpgepcoaaP2
namespace Go.Proofs.Ytfabgnnpgepcoaa
open Go.RowKit
set_option linter.unusedSimpArgs false
set_option linter.unusedVariables false
attribute [local go_sem] BelowBy.cell BelowBy.cell_drew stillUpon givesUpon

set_option maxRecDepth 100000 in
set_option maxHeartbeats 1000000 in
theorem markInt64S_any (A : Option Addr) (n c k lo hi : Nat) (w : World) (h : MkRow 2 1 lo hi w A n) (hh : hi ≤ w.heap.size) (hl : lo ≤ w.heap.size) (hk : k + n ≤ 4611686018427387904) :
    Calls Try.prog 29 #[.slice A n c, .int .i64 (k : Int)] w (MkRes lo hi w (k + n)) := by
  go_enter Try.func29, Try.ntmps29
  go_wp2
  go_loopg [5, 1] n (fun r x kk wr => ∃ i : Nat, i + r = n ∧ x = .int .i64 (i : Int) ∧ kk = .int .i64 ((k + i : Nat) : Int) ∧ MkRow 2 1 lo hi wr A n ∧ Mk lo hi w wr)
  case atStart => exact ⟨0, by omega, rfl, rfl, h, Mk.refl _ _ _⟩
  case round =>
    obtain ⟨i, hi', rfl, rfl, hr, hm⟩ := hrel
    by_cases hlt : i < n
    · obtain ⟨g, N, f, rfl, hg1, hg2, hrow, hN⟩ := hr (by omega)
      have hc0 := hrow.cell (i := i) (by omega)
      have hf0 := hrow.frozen i
      have hki : (0 : Int) ≤ (k : Int) + (i : Int) := by omega
      have hki2 : (k : Int) + (i : Int) < 4611686018427387904 := by omega
      have hr := hr.set g i
      have hm := fun u => hm.set (p := ⟨g, i, none⟩) hg1 hg2 u
      have hr := Lib.hid hr
      have hm := Lib.hid hm
      clear hrow
      go_wp2
      go_roundg (n - (i + 1))
      case measure => omega
      case rel => exact ⟨i + 1, by omega, by go_num, by go_num, hr.out _, hm.out _⟩
    · obtain rfl : i = n := by omega
      go_wp2
      go_ret
      exact ⟨rfl, hm⟩
set_option maxRecDepth 100000 in
set_option maxHeartbeats 2000000 in
theorem markGlueS_any (A : Option Addr) (n c k lo hi : Nat) (w : World) (h : MkRow 149 2 lo hi w A n) (hh : hi ≤ w.heap.size) (hl : lo ≤ w.heap.size) (hk : k + 2 * n ≤ 4611686018427387904) :
    Calls Try.prog 79 #[.slice A n c, .int .i64 (k : Int)] w (MkRes lo hi w (k + 2 * n)) := by
  go_enter Try.func79, Try.ntmps79
  go_wp2
  go_loopg [5, 1] n (fun r x kk wr => ∃ i : Nat, i + r = n ∧ x = .int .i64 (i : Int) ∧ kk = .int .i64 ((k + 2 * i : Nat) : Int) ∧ MkRow 149 2 lo hi wr A n ∧ Mk lo hi w wr)
  case atStart => exact ⟨0, by omega, rfl, rfl, h, Mk.refl _ _ _⟩
  case round =>
    obtain ⟨i, hi', rfl, rfl, hr, hm⟩ := hrel
    by_cases hlt : i < n
    · obtain ⟨j, hj⟩ : ∃ j, j = k + 2 * i := ⟨_, rfl⟩
      have hki : (0 : Int) ≤ (j : Int) := by omega
      have hki2 : (j : Int) + 1 < 4611686018427387904 := by omega
      have hjH := Lib.hid hj
      rw [← hj]
      clear hj
      have hhw : hi ≤ wr.heap.size := Nat.le_trans hh hm.size
      have hmH := Lib.hid hm
      have hrH := Lib.hid hr
      have hrr := hr (by omega)
      obtain ⟨g, N, f, rfl, hg1, hg2, hrow, hN⟩ := hrr
      clear hm hr hrow
      go_wp2_with fail
      refine (markText_any j (by omega) _).mono ?_
      rintro e w1 ⟨rfl, hb1⟩
      have hr1 := hrH.out.below hb1 hhw
      have hr1H := Lib.hid hr1
      obtain ⟨g', N', f', hA, _, _, hrow, hN'⟩ := hr1 (by omega)
      obtain rfl : g = g' := by simpa using hA
      have hc0 := hrow.cell (i := i * 2) (by omega)
      have hf0 := hrow.frozen (i * 2)
      have hc1 := hrow.cell (i := i * 2 + 1) (by omega)
      have hf1 := hrow.frozen (i * 2 + 1)
      have hb1H := Lib.hid hb1
      clear hrow hr1 hA hb1
      go_wp2
      go_roundg (n - (i + 1))
      case measure => omega
      case rel => exact ⟨i + 1, by omega, by go_num, by (have := hjH.out; rw [show k + 2 * (i + 1) = j + 1 + 1 by omega]; go_num), ((hr1H.out.set g (i * 2) _).set g (i * 2 + 1) _), ((hmH.out.bl hb1H.out hl).set (p := ⟨g, i * 2, none⟩) hg1 hg2 _).set (p := ⟨g, i * 2 + 1, none⟩) hg1 hg2 _⟩
    · obtain rfl : i = n := by omega
      go_wp2
      go_ret
      exact ⟨rfl, hm⟩
end Go.Proofs.Ytfabgnnpgepcoaa
