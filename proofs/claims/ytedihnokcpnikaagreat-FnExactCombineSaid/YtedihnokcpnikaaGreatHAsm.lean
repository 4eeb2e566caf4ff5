/- Walks: the harness' marks on a result that is an assembly, and what 'held' says of it. -/
import Derived.Test.YtedihnokcpnikaaGreatKH
import Derived.Test.YtedihnokcpnikaaGreatPlC
namespace Go.Proofs.YtedihnokcpnikaaGreat
open Go.RowKit
set_option linter.unusedSimpArgs false
set_option linter.unusedVariables false
attribute [local go_sem] BelowBy.cell BelowBy.cell_drew stillUpon givesUpon

set_option maxRecDepth 100000 in
set_option maxHeartbeats 2000000 in
theorem heldPlacedS_any (A : Option Addr) (n c k lo hi : Nat) (w : World) (h : Marked 127 3 lo hi w A n k) (hk : k + 3 * n ≤ 4611686018427387904) :
    Calls Tryz.prog 47 #[.slice A n c, .int .i64 (k : Int)] w fun e w' => e = .returned (.int .i64 ((k + 3 * n : Nat) : Int)) ∧ w = w' := by
  go_enter Tryz.func47, Tryz.ntmps47
  go_wp2
  go_loopg [5, 1] n (fun r x kk wr => ∃ i : Nat, i + r = n ∧ x = .int .i64 (i : Int) ∧ kk = .int .i64 ((k + 3 * i : Nat) : Int) ∧ w = wr)
  case atStart => exact ⟨0, by omega, rfl, rfl, rfl⟩
  case round =>
    obtain ⟨i, hi', rfl, rfl, rfl⟩ := hrel
    by_cases hlt : i < n
    · obtain ⟨j0, hj⟩ : ∃ j0, j0 = k + 3 * i := ⟨_, rfl⟩
      have hki : (0 : Int) ≤ (j0 : Int) := by omega
      have hki2 : (j0 : Int) + 3 < 4611686018427387910 := by omega
      have hjH := Lib.hid hj
      rw [← hj]
      obtain ⟨g, N, f, rfl, hg1, hg2, hrow, hN, hcont⟩ := h (by omega)
      have hc0 := hrow.cell (i := i * 3) (by omega)
      rw [hcont (i * 3) (by omega), show ((k + (i * 3) : Nat) : Int) = (j0 : Int) by omega] at hc0
      have hc1 := hrow.cell (i := i * 3 + 1) (by omega)
      rw [hcont (i * 3 + 1) (by omega), show ((k + (i * 3 + 1) : Nat) : Int) = (j0 : Int) + 1 by omega] at hc1
      have hc2 := hrow.cell (i := i * 3 + 2) (by omega)
      rw [hcont (i * 3 + 2) (by omega), show ((k + (i * 3 + 2) : Nat) : Int) = (j0 : Int) + 1 + 1 by omega] at hc2
      clear hj hrow hcont h
      go_wp2
      go_roundg (n - (i + 1))
      case measure => omega
      case rel => exact ⟨i + 1, by omega, by go_num, by (have := hjH.out; rw [show k + 3 * (i + 1) = j0 + 1 + 1 + 1 by omega]; go_num), rfl⟩
    · obtain rfl : i = n := by omega
      go_wp2
      go_ret
      exact ⟨rfl, rfl⟩
theorem rdPl {W : World} {base : Nat} {A : Option Addr} {n c : Nat} {bs : List Pl} (h : W.ownsRow base 127 3 (.slice A n c) n (plCells bs)) (hn : n = bs.length := by rfl) : RdSl 3 RPl W A n bs := by
  subst hn
  obtain ⟨A', cap, e, h'⟩ := rdP_of_row h
  injection e with e1 e2 e3
  subst e1
  exact h'
theorem markAssembly_c (A : Option Addr) (n c k lo hi : Nat) (w : World) (h : MkRow 127 3 lo hi w A n) (hh : hi ≤ w.heap.size) (hl : lo ≤ w.heap.size) (hk : k + 3 * n ≤ 4611686018427387904) :
    Calls Tryz.prog 16 #[.agg #[.slice A n c], .int .i64 (k : Int)] w (MkResC 127 3 lo hi A n k w (k + 3 * n)) := by
  have ha : Below w.heap.size w (w.alloc (.cells #[.slice A n c] 35)) := bl_al (bl_refl _) _
  have haH := Lib.hid ha
  have h' := Lib.hid (h.below ha hh)
  clear h ha
  go_enter Tryz.func16, Tryz.ntmps16
  go_wp2_with fail
  refine (markPlacedS_c A n c k lo hi _ h'.out (by simp; omega) (by simp; omega) hk).mono ?_
  rintro e w1 ⟨rfl, hm1, hc1⟩
  have hm1H := Lib.hid hm1
  have hc1H := Lib.hid hc1
  clear hm1 hc1
  go_wp2
  go_ret
  exact ⟨rfl, (Mk.of_below haH.out hl).trans hm1H.out, hc1H.out⟩
theorem heldAssembly_any (A : Option Addr) (n c k lo hi : Nat) (w : World) (h : Marked 127 3 lo hi w A n k) (hh : hi ≤ w.heap.size) (hk : k + 3 * n ≤ 4611686018427387904) :
    Calls Tryz.prog 17 #[.agg #[.slice A n c], .int .i64 (k : Int)] w fun e w' => e = .returned (.int .i64 ((k + 3 * n : Nat) : Int)) ∧ Below w.heap.size w w' := by
  have ha : Below w.heap.size w (w.alloc (.cells #[.slice A n c] 35)) := bl_al (bl_refl _) _
  have haH := Lib.hid ha
  have h' := Lib.hid (h.below ha hh)
  clear h ha
  go_enter Tryz.func17, Tryz.ntmps17
  go_wp2_with fail
  refine (heldPlacedS_any A n c k lo hi _ h'.out hk).mono ?_
  rintro e _ ⟨rfl, rfl⟩
  have hk0 : (0 : Int) ≤ ((k + 3 * n : Nat) : Int) := by omega
  go_wp2
  go_ret
  exact ⟨rfl, haH.out⟩
/-- an assembly and a code -/
def AsmRes (w : World) (r : List Pl × Int) (e : Ending) (w' : World) : Prop :=
  ∃ A c, e = .returned (.tuple #[.agg #[.slice A r.1.length c], .int .i64 r.2]) ∧ w'.ownsRow w.heap.size 127 3 (.slice A r.1.length c) r.1.length (plCells r.1) ∧ Below w.heap.size w w'
theorem AsmRes.of {w w' : World} {r : List Pl × Int} {bs : List Pl} {n : Nat} {c : Int} {A : Option Addr} {cap : Nat} (h : (bs, c) = r) (hn : n = bs.length) (hr : w'.ownsRow w.heap.size 127 3 (.slice A n cap) n (plCells bs)) (hb : Below w.heap.size w w') : AsmRes w r (.returned (.tuple #[.agg #[.slice A n cap], .int .i64 c])) w' := by
  subst h hn
  exact ⟨A, cap, rfl, hr, hb⟩
end Go.Proofs.YtedihnokcpnikaaGreat
