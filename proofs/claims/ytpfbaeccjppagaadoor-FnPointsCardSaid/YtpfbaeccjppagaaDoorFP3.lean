/- Walks: picks of a source; a drawn point and direction. -/
import Derived.Test.YtpfbaeccjppagaaDoorFP2
namespace Go.Proofs.YtpfbaeccjppagaaDoor
open Go.RowKit
set_option linter.unusedSimpArgs false
set_option linter.unusedVariables false
attribute [local go_sem] BelowBy.cell BelowBy.cell_drew stillUpon givesUpon

set_option maxHeartbeats 1000000 in
theorem pick_any {p n c a s N : Nat} {C : Option Addr} {bs : List Nat} {w : World} (h : Src w p C n c bs a s) (ha : a ≤ 1000000) (hn : n ≤ 1000000) (h1 : 2 ≤ N) (h2 : N ≤ 200) :
    Calls Tryd.prog 16 #[.pointer (some ⟨p, 0, none⟩), .int .i64 (N : Int)] w fun e w' => ∃ (v s' : Nat), e = .returned (.int .i64 (v : Int)) ∧ v < N ∧ Src w' p C n c bs (a + 1) s' ∧ Kp p w w' := by
  have hH := Lib.hid h
  clear h
  have hN1 : ¬ (N : Int) ≤ 1 := by omega
  have hN2 : ¬ (200 : Int) < (N : Int) := by omega
  have hN0 : ((N : Int) == 0) = false := by simp; omega
  have hN0' : ¬ (N : Int) = 0 := by omega
  go_enter Tryd.func16, Tryd.ntmps16
  go_wp2_with (go_at_call 31; refine (next_any hH.out ha hn).mono ?_; rintro e w1 ⟨v, s', rfl, hv, hS, hb⟩; have hSH := Lib.hid hS; have hbH := Lib.hid hb; clear hS hb)
  go_ret
  have hm : (v : Int).tmod (N : Int) = ((v % N : Nat) : Int) := by rw [Int.tmod_eq_emod_of_nonneg (by omega)]; omega
  exact ⟨v % N, s', by first | exact ret_int hm | (simp [hm]; done), Nat.mod_lt _ (by omega), hSH.out, hbH.out⟩
set_option maxHeartbeats 1000000 in
theorem one_any {p n c a s : Nat} {C : Option Addr} {bs : List Nat} {w : World} (h : Src w p C n c bs a s) (ha : a ≤ 1000000) (hn : n ≤ 1000000) :
    Calls Tryd.prog 29 #[.pointer (some ⟨p, 0, none⟩), .int .i64 24] w fun e w' => ∃ (v : Bool) (s' : Nat), e = .returned (.bool v) ∧ Src w' p C n c bs (a + 1) s' ∧ Kp p w w' := by
  have hH := Lib.hid h
  clear h
  go_enter Tryd.func29, Tryd.ntmps29
  go_wp2_with (go_at_call 16; refine (pick_any (N := 24) hH.out ha hn (by omega) (by omega)).mono ?_; rintro e w1 ⟨v, s', rfl, hv, hS, hb⟩; have hSH := Lib.hid hS; have hbH := Lib.hid hb; clear hS hb)
  go_ret
  exact ⟨_, s', rfl, hSH.out, hbH.out⟩
set_option maxHeartbeats 1000000 in
theorem among_any {p n c a s q : Nat} {C : Option Addr} {bs : List Nat} {L : List Int} {w : World} (h : Src w p C n c bs a s) (ha : a ≤ 1000000) (hn : n ≤ 1000000) (hL : L.length = 6) (hq : q < w.heap.size) (hqp : q ≠ p) (hc : ∀ i v, L[i]? = some v → w.cell? ⟨q, i, none⟩ = some (.int .i64 v)) :
    Calls Tryd.prog 30 #[.pointer (some ⟨p, 0, none⟩), .slice (some ⟨q, 0, none⟩) 6 6] w fun e w' => ∃ (v : Int) (s' : Nat), e = .returned (.int .i64 v) ∧ v ∈ L ∧ Src w' p C n c bs (a + 1) s' ∧ Kp p w w' := by
  have hH := Lib.hid h
  have hcH := Lib.hid hc
  clear h hc
  go_enter Tryd.func30, Tryd.ntmps30
  go_wp2_with fail
  refine (pick_any (N := 6) hH.out ha hn (by omega) (by omega)).mono ?_
  rintro e w1 ⟨v, s', rfl, hv, hS, hb⟩
  have hSH := Lib.hid hS
  have hbH := Lib.hid hb
  obtain ⟨x, hx⟩ : ∃ x, L[v]? = some x := ⟨_, List.getElem?_eq_getElem (by omega)⟩
  have hcx := (World.cell?_of_block (a := ⟨q, v, none⟩) (hb.keep q hqp hq)).trans (hcH.out v x hx)
  have hv0 : (0 : Int) ≤ (v : Int) := by omega
  have hv6 : (v : Int) < 6 := by omega
  have hq1 : q < w1.heap.size := Nat.lt_of_lt_of_le hq hb.below.size
  have hxm := Lib.hid (List.mem_of_getElem? hx)
  clear hS hb hx
  go_wp2
  go_ret
  exact ⟨x, s', rfl, hxm.out, hSH.out, hbH.out⟩
end Go.Proofs.YtpfbaeccjppagaaDoor
