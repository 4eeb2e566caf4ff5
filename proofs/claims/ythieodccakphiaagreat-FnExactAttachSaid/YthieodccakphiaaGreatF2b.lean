/- Walks: slices.Reverse of a row of the call's own. -/
import Derived.Test.YthieodccakphiaaGreatF1
import Derived.IntWalk
import Derived.Laws.OwnMore
namespace Go.Proofs.YthieodccakphiaaGreat
open Go.RowKit Go.Shelf
set_option linter.unusedSimpArgs false
set_option linter.unusedVariables false
attribute [local go_sem] BelowBy.cell BelowBy.cell_drew stillUpon givesUpon BelowBy.cell_drew2 BelowBy.cell_drew3

theorem ownsRow_grown {w w' : World} {base : Nat} {e : TypeId} {size : Nat} {v : Value} {n : Nat} {xs : List Value} (h : w.ownsRow base e size v n xs) (hh : ∀ g, v.ownBlock = some g → w'.heap[g]? = w.heap[g]?) : w'.ownsRow base e size v n xs := by
  refine ⟨h.1, h.2.imp id ?_⟩
  rintro ⟨g, cap, cur, rfl, hb, hg, hr⟩
  exact ⟨g, cap, cur, rfl, hb, (hh g rfl).trans hg, hr⟩
theorem grownBy_drew {w w' : World} {row : Option Nat} (h : w.grownBy w' row) : w.grownBy w'.drew row := ⟨h.os, h.tape, h.output, h.size, h.block⟩
set_option maxRecDepth 100000 in
set_option maxHeartbeats 2000000 in
theorem Reverse_any (base g n c : Nat) (zs : List Int) (w : World) (h : w.ownsRow base 3 1 (.slice (some ⟨g, 0, none⟩) n c) n (zs.map (Value.int .i64))) (hn : 1 ≤ n) (hn2 : n ≤ 1000000) :
    Calls Tryz.prog 170 #[.slice (some ⟨g, 0, none⟩) n c] w fun e w' => e = .returned (.tuple #[]) ∧ w'.ownsRow base 3 1 (.slice (some ⟨g, 0, none⟩) n c) n (zs.reverse.map (Value.int .i64)) ∧ w.grownBy w' (some g) := by
  have hl : zs.length = n := by have := h.1; simpa using this
  have hH := Lib.hid h
  have hlH := Lib.hid hl
  clear h hl
  have hw0 : IntKind.i64.wrap ((n : Int) - 1) = (n : Int) - 1 := IntWalk.i64_in _ ⟨by omega, by omega⟩
  go_enter Tryz.func170, Tryz.ntmps170
  go_wp2
  go_loopg [2, 3] n (fun r x y wr => ∃ (k : Nat) (ys : List Int), k + r = n ∧ x = .int .i64 (k : Int) ∧ y = .int .i64 ((n : Int) - 1 - (k : Int)) ∧ 2 * k ≤ n + 1 ∧ Hid (ys.length = n ∧ ∀ j, j < n → ys[j]? = if j < k ∨ n - 1 - k < j then zs[n - 1 - j]? else zs[j]?) ∧ Hid (wr.ownsRow base 3 1 (.slice (some ⟨g, 0, none⟩) n c) n (ys.map (Value.int .i64))) ∧ Hid (w.grownBy wr (some g)))
  case atStart => exact ⟨0, zs, by omega, rfl, by go_num, by omega, Lib.hid ⟨hlH.out, fun j hj => by rw [if_neg (by omega)]⟩, hH, Lib.hid ⟨rfl, rfl, rfl, Nat.le_refl _, fun _ _ _ => rfl⟩⟩
  case round =>
    obtain ⟨k, ys, hk, rfl, rfl, hk2, hys, hrow, hgr⟩ := hrel
    by_cases hlt : 2 * k + 1 < n
    · obtain ⟨m, hm⟩ : ∃ m, n - 1 - k = m := ⟨_, rfl⟩
      have hmI : (n : Int) - 1 - (k : Int) = (m : Int) := by omega
      rw [hmI]
      have hmH := Lib.hid hm
      have hkm : k < m := by omega
      have hmn : m < n := by omega
      obtain ⟨a, ha⟩ : ∃ a, ys[k]? = some a := ⟨_, List.getElem?_eq_getElem (by rw [hys.out.1]; omega)⟩
      obtain ⟨b, hb⟩ : ∃ b, ys[m]? = some b := ⟨_, List.getElem?_eq_getElem (by rw [hys.out.1]; omega)⟩
      have ca := (hrow.out.cellAt k (by omega)).trans (by rw [List.getElem?_map, ha]; rfl : _ = some (Value.int .i64 a))
      have cb := (hrow.out.cellAt m (by omega)).trans (by rw [List.getElem?_map, hb]; rfl : _ = some (Value.int .i64 b))
      have fa := hrow.out.frozenAt k
      have fb := hrow.out.frozenAt m
      have hg := (hrow.out.lt g rfl).2
      have haH := Lib.hid ha
      have hbH := Lib.hid hb
      have kI : (k : Int) < (m : Int) := by omega
      have hkn : k < n := by omega
      have n1 : ¬ (k = m) := by omega
      have n2 : ¬ (m = k) := by omega
      have hw1 : IntKind.i64.wrap ((m : Int) - 1) = (m : Int) - 1 := IntWalk.i64_in _ ⟨by omega, by omega⟩
      clear hm ha hb hmI
      go_wp2
      refine wp_region_ord [(0, .q), (1, .q), (2, .p), (3, .p), (4, .q), (5, .q), (6, .q), (7, .q), (8, .q), (9, .q), (10, .q), (11, .q), (12, .q), (13, .b), (14, .q), (15, .b)] (by kernel_rfl) (by kernel_rfl) ?_
      simp only [pick, List.filterMap_cons, List.filterMap_nil, List.getElem?_toArray, List.getElem?_cons_zero, List.getElem?_cons_succ, Option.map_some]
      repeat (first | ((with_reducible refine wpD_p (fun K hK => ?_)); go_simp; refine hK _ ?_; clear hK K) | ((with_reducible refine wpD_q (fun K hK => ?_)); go_simp; (first | refine hK _ ?_ | (go_bits; refine hK _ ?_) | (go_bits; go_simp; refine hK _ ?_)); clear hK K))
      with_reducible refine wpD_b (fun K hK => ?_)
      go_simp
      refine hK _ _ ?_
      clear hK K
      repeat (first | ((with_reducible refine wpD_p (fun K hK => ?_)); go_simp; refine hK _ ?_; clear hK K) | ((with_reducible refine wpD_q (fun K hK => ?_)); go_simp; (first | refine hK _ ?_ | (go_bits; refine hK _ ?_) | (go_bits; go_simp; refine hK _ ?_)); clear hK K))
      with_reducible refine wpD_b (fun K hK => ?_)
      go_simp
      refine hK _ _ ?_
      clear hK K
      repeat (first | ((with_reducible refine wpD_p (fun K hK => ?_)); go_simp; refine hK _ ?_; clear hK K) | ((with_reducible refine wpD_q (fun K hK => ?_)); go_simp; (first | refine hK _ ?_ | (go_bits; refine hK _ ?_) | (go_bits; go_simp; refine hK _ ?_)); clear hK K))
      with_reducible refine wpD_nil ?_
      go_wp2
      go_roundg (n - (k + 1))
      case measure => omega
      case rel =>
        refine ⟨k + 1, (ys.set k b).set m a, by omega, by go_num, ?_, by omega, Lib.hid ⟨by simp [hys.out.1], fun j hj => ?_⟩, Lib.hid ?_, Lib.hid ?_⟩
        · have := hmH.out
          go_num
        · have hmm := hmH.out
          have h1 := hys.out.2 k (by omega)
          have h2 := hys.out.2 m (by omega)
          rw [if_neg (by omega), haH.out] at h1
          rw [if_neg (by omega), hbH.out] at h2
          rw [List.getElem?_set, List.getElem?_set, List.length_set, hys.out.1]
          by_cases e1 : m = j
          · subst e1
            rw [if_pos rfl, if_pos hj, if_pos (by omega), show n - 1 - m = k by omega, ← h1]
          · rw [if_neg e1]
            by_cases e2 : k = j
            · subst e2
              rw [if_pos rfl, if_pos hj, if_pos (by omega), show n - 1 - k = m by omega, ← h2]
            · rw [if_neg e2, hys.out.2 j hj]
              by_cases e3 : j < k ∨ n - 1 - k < j
              · rw [if_pos e3, if_pos (by omega)]
              · rw [if_neg e3, if_neg (by omega)]
        · rw [List.map_set, List.map_set]
          exact ((hrow.out.stored k (.int .i64 b)).1.stored m (.int .i64 a)).1
        · have g1 := (hrow.out.stored k (.int .i64 b))
          have g2 := (g1.1.stored m (.int .i64 a)).2
          exact grownBy_drew (hgr.out.trans (g1.2.trans g2))
    · have hd : ((n : Int) - 1 - (k : Int) ≤ (k : Int)) := by omega
      have hys2 : ys = zs.reverse := by
        apply List.ext_getElem?
        intro j
        by_cases hj : j < n
        · rw [hys.out.2 j hj, List.getElem?_reverse (by rw [hlH.out]; exact hj), hlH.out]
          by_cases e3 : j < k ∨ n - 1 - k < j
          · rw [if_pos e3]
          · rw [if_neg e3, show n - 1 - j = j by omega]
        · rw [List.getElem?_eq_none (by rw [hys.out.1]; omega), List.getElem?_eq_none (by rw [List.length_reverse, hlH.out]; omega)]
      have hysH := Lib.hid hys2
      clear hys2
      go_wp2
      go_end0
      exact ⟨rfl, by rw [← hysH.out]; exact hrow.out, hgr.out⟩
end Go.Proofs.YthieodccakphiaaGreat
