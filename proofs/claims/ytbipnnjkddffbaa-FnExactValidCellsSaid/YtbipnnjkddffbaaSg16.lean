/- Walks: the reference's places of signal cells. -/
import Derived.Test.YtbipnnjkddffbaaSg15
namespace Go.Proofs.Ytbipnnjkddffbaa
open Go.RowKit Go.Shelf
set_option linter.unusedSimpArgs false
set_option linter.unusedVariables false
attribute [local go_sem] BelowBy.cell BelowBy.cell_drew stillUpon givesUpon BelowBy.cell_drewS2 BelowBy.cell_drewS3

set_option maxHeartbeats 2000000 in
theorem l31Index_any (A : Option Addr) (n c : Nat) (gs : List Gl) (ts : List Sti) (cs : List Sc) (x y : Int) (w : World) (h2 : RdSl 6 RSc w A n cs) (hC : CellsV gs ts cs) (r : Int) (hr : placeI (plsOf cs) x y = r) :
    Calls Try.prog 148 #[.slice A n c, .agg #[.int .i64 x, .int .i64 y]] w fun e w' => e = .returned (.int .i64 r) ∧ Below w.heap.size w w' := by
  have hl := h2.len
  have h5 := hC.len
  have hV := Lib.hid hC.V
  have hrH := Lib.hid hr
  clear hC hr
  go_enter Try.func148, Try.ntmps148
  go_wp2
  go_loopg [5] n (fun g i wr => ∃ k : Nat, k + g = n ∧ i = .int .i64 (k : Int) ∧ Hid (∀ (j : Nat) (d : Pl), j < k → (plsOf cs)[j]? = some d → ¬ (d.x = x ∧ d.y = y)) ∧
    Below w.heap.size w wr ∧ wr.cell? ⟨w.heap.size, 0, none⟩ = some (.int .i64 x) ∧ wr.cell? ⟨w.heap.size, 1, none⟩ = some (.int .i64 y) ∧ w.heap.size < wr.heap.size)
  case atStart => exact ⟨0, by omega, rfl, Lib.hid (fun j d hj => by omega), by exact bel_, by go_simp, by go_simp, by simp⟩
  case round =>
    obtain ⟨k, hk, rfl, hno, hbw, hx0, hx1, hsz⟩ := hrel
    have g2 := h2.below RSc.stable hbw
    by_cases hkn : k < n
    · obtain ⟨b, o, rfl, hb, hc⟩ := g2.ptr (by omega)
      obtain ⟨e, he⟩ := g2.get hkn
      obtain ⟨c0, c1, c2, ⟨OA, on, oc, c3, _⟩, ⟨BA, bn, bc, c4, _⟩, ⟨FA, fn, fc, c5, _⟩⟩ := hc k e he
      have heH := Lib.hid (plsOf_get he)
      clear hc g2 he h2
      by_cases hxy : e.x = x ∧ e.y = y
      · have hP := Lib.hid (IsPlace.eq hV.out (place_found heH.out hxy.1 hxy.2))
        obtain ⟨rfl, rfl⟩ := hxy
        go_wp2
        refine wp_region_ord [(0, .q), (1, .q), (2, .q), (3, .q), (4, .q), (5, .q), (6, .q)] (by kernel_rfl) (by kernel_rfl) ?_
        simp only [pick, List.filterMap_cons, List.filterMap_nil, List.getElem?_toArray, List.getElem?_cons_zero, List.getElem?_cons_succ, Option.map_some]
        repeat (first
          | ((with_reducible refine wpD_p (fun K hK => ?_)); go_simp; refine hK _ ?_; clear hK K)
          | ((with_reducible refine wpD_q (fun K hK => ?_)); go_simp; (first | refine hK _ ?_ | (go_bits; refine hK _ ?_) | (go_bits; go_simp; refine hK _ ?_)); clear hK K)
          | ((with_reducible refine wpD_g (fun K hK => ?_)); go_simp; refine hK _ _ ?_; clear hK K)
          | ((with_reducible refine wpD_g (fun K hK => ?_)); go_simp; refine ⟨Grew.of_alloc _, hK _ _ ?_⟩; clear hK K))
        with_reducible refine wpD_nil ?_
        go_wp2
        go_ret
        exact ⟨ret_int (by rw [← hrH.out, ← hP.out]), by exact bel_⟩
      · have hxyH := Lib.hid hxy
        by_cases h1 : e.x = x
        · have h2 : (e.y == y) = false := by
            cases h2 : e.y == y
            · rfl
            · exact absurd ⟨h1, by simpa using h2⟩ hxy
          subst h1
          clear hxy
          go_wp2
          refine wp_region_ord [(0, .q), (1, .q), (2, .q), (3, .q), (4, .q), (5, .q), (6, .q)] (by kernel_rfl) (by kernel_rfl) ?_
          simp only [pick, List.filterMap_cons, List.filterMap_nil, List.getElem?_toArray, List.getElem?_cons_zero, List.getElem?_cons_succ, Option.map_some]
          repeat (first
            | ((with_reducible refine wpD_p (fun K hK => ?_)); go_simp; refine hK _ ?_; clear hK K)
            | ((with_reducible refine wpD_q (fun K hK => ?_)); go_simp; (first | refine hK _ ?_ | (go_bits; refine hK _ ?_) | (go_bits; go_simp; refine hK _ ?_)); clear hK K)
            | ((with_reducible refine wpD_g (fun K hK => ?_)); go_simp; refine hK _ _ ?_; clear hK K)
            | ((with_reducible refine wpD_g (fun K hK => ?_)); go_simp; refine ⟨Grew.of_alloc _, hK _ _ ?_⟩; clear hK K))
          with_reducible refine wpD_nil ?_
          go_wp2
          go_roundg (n - (k + 1))
          case measure => omega
          case rel => exact ⟨k + 1, by omega, by go_num, Lib.hid fun j d hj hd => (by
            rcases Nat.lt_succ_iff_lt_or_eq.1 hj with hj | rfl
            · exact hno.out j d hj hd
            · rw [heH.out] at hd; obtain rfl := Option.some.inj hd; exact fun hh => hxyH.out ⟨by first | trivial | exact hh.1, hh.2⟩), by exact bel_, by go_simp, by go_simp, by exact bel_⟩
        · have h2 : (e.x == x) = false := by simpa using h1
          clear hxy h1
          go_wp2
          refine wp_region_ord [(0, .q), (1, .q), (2, .q), (3, .q), (4, .q), (5, .q), (6, .q)] (by kernel_rfl) (by kernel_rfl) ?_
          simp only [pick, List.filterMap_cons, List.filterMap_nil, List.getElem?_toArray, List.getElem?_cons_zero, List.getElem?_cons_succ, Option.map_some]
          repeat (first
            | ((with_reducible refine wpD_p (fun K hK => ?_)); go_simp; refine hK _ ?_; clear hK K)
            | ((with_reducible refine wpD_q (fun K hK => ?_)); go_simp; (first | refine hK _ ?_ | (go_bits; refine hK _ ?_) | (go_bits; go_simp; refine hK _ ?_)); clear hK K)
            | ((with_reducible refine wpD_g (fun K hK => ?_)); go_simp; refine hK _ _ ?_; clear hK K)
            | ((with_reducible refine wpD_g (fun K hK => ?_)); go_simp; refine ⟨Grew.of_alloc _, hK _ _ ?_⟩; clear hK K))
          with_reducible refine wpD_nil ?_
          go_wp2
          go_roundg (n - (k + 1))
          case measure => omega
          case rel => exact ⟨k + 1, by omega, by go_num, Lib.hid fun j d hj hd => (by
            rcases Nat.lt_succ_iff_lt_or_eq.1 hj with hj | rfl
            · exact hno.out j d hj hd
            · rw [heH.out] at hd; obtain rfl := Option.some.inj hd; exact fun hh => hxyH.out ⟨by first | trivial | exact hh.1, hh.2⟩), by exact bel_, by go_simp, by go_simp, by exact bel_⟩
    · obtain rfl : k = n := by omega
      have hP := Lib.hid (IsPlace.eq hV.out (.inl ⟨rfl, fun j d hd => hno.out j d (by have := lt_of_get hd; rw [plsOf_len] at this; omega) hd⟩))
      clear g2 h2
      go_wp2
      go_ret
      exact ⟨ret_int (by rw [← hrH.out, ← hP.out]), by exact bel_⟩
end Go.Proofs.Ytbipnnjkddffbaa
