/- Walks: the harness' copies. -/
import Derived.Test.YtkiamhpapkgboaaDoorW1
import Derived.Test.YtkiamhpapkgboaaDoorBase2
namespace Go.Proofs.YtkiamhpapkgboaaDoor
open Go.RowKit
set_option linter.unusedSimpArgs false
set_option linter.unusedVariables false
attribute [local go_sem] BelowBy.cell BelowBy.cell_drew stillUpon givesUpon

theorem infoI : (Tryd.prog.info? 2).map (fun i => (i.zero, i.size, i.bytes)) = some (some (.int .i64 0), 1, 8) := by kernel_rfl
theorem infoGl : (Tryd.prog.info? 87).map (fun i => (i.zero, i.size, i.bytes)) = some (some (.agg #[.string ByteArray.empty, .int .i64 0]), 2, 24) := by kernel_rfl
theorem infoTi : (Tryd.prog.info? 91).map (fun i => (i.zero, i.size, i.bytes)) = some (some (.agg #[.string ByteArray.empty, .slice none 0 0]), 2, 40) := by kernel_rfl
theorem infoPl : (Tryd.prog.info? 95).map (fun i => (i.zero, i.size, i.bytes)) = some (some (.agg #[.int .i64 0, .int .i64 0, .int .i64 0]), 3, 24) := by kernel_rfl

set_option maxHeartbeats 1000000 in
theorem toInt64S_any (A : Option Addr) (n c : Nat) (xs : List Int) (w : World) (h : RdSl 1 RInt w A n xs) (hn : n ≤ 1073741824) :
    Calls Tryd.prog 28 #[.slice A n c] w (ResSl 2 1 RInt w n xs) := by
  have hmk := fun W => run_makeN (P := Tryd.prog) 25 2 _ 1 8 Tryd.underlying25 infoI n (by omega) (by omega) W
  go_enter Tryd.func28, Tryd.ntmps28
  go_wp2
  go_loopg [4] n (fun g i wr => ∃ (k : Nat) (f : Nat → Value), k + g = n ∧ i = .int .i64 k ∧ Below w.heap.size w wr ∧ w.heap.size < wr.heap.size ∧ wr.rowIs w.heap.size 2 n f ∧ (∀ j e, j < k → xs[j]? = some e → f j = .int .i64 e))
  case atStart => exact ⟨0, _, by omega, rfl, bl_al (bl_refl _) _, by simp, by have := rowIs_make w #[.int .i64 0] n 2; simpa [Value.cells] using this, fun j e hj => by omega⟩
  case round =>
    obtain ⟨k, f, hk, rfl, hbw, hsz, hrow, hf⟩ := hrel
    have r1 := h.below RInt.stable hbw
    by_cases hlt : k < n
    · obtain ⟨b, o, rfl, hb, hc⟩ := r1.ptr (by omega)
      obtain ⟨e, he⟩ := h.get hlt
      have HE := Lib.hid he
      have HF := Lib.hid hf
      have c1 := hc k e he
      unfold RInt at c1
      simp only [Nat.mul_one] at c1
      have hc0 := hrow.cell hlt
      have hf0 := hrow.frozen k
      clear hc he r1 hf
      go_wp2
      go_roundg (n - (k + 1))
      case measure => omega
      case rel => exact ⟨k + 1, _, by omega, by go_num, (by exact bel_), (by simp; omega), hrow.set k _, fun j e' hj he' => by
        have HF := HF.out
        rcases Nat.lt_succ_iff_lt_or_eq.1 hj with hj | rfl
        · have h3 := HF j e' hj he'
          rw [if_neg (by omega)]; exact h3
        · obtain rfl := Option.some.inj (HE.out.symm.trans he')
          rw [if_pos rfl]⟩
    · obtain rfl : k = n := by omega
      go_wp2
      go_ret
      refine ⟨_, rfl, ⟨h.len, _, f, rfl, Nat.le_refl _, by rw [Nat.mul_one]; exact hrow, fun j e he => ?_⟩, hbw⟩
      have hj : j < k := by rw [← h.len]; exact (List.getElem?_eq_some_iff.1 he).1
      have h3 := hf j e hj he
      rw [Nat.mul_one]
      exact (hrow.cell hj).trans (by rw [h3])
def ResAs (T : Nat) (w : World) (n : Nat) (xs : List Pl) (e : Ending) (w' : World) : Prop :=
  ∃ A, e = .returned (.agg #[.slice A n n]) ∧ OwSl T 3 RPl w' w.heap.size A n xs ∧ Below w.heap.size w w'
end Go.Proofs.YtkiamhpapkgboaaDoor
