/- Walks: the harness' counting. -/
import Derived.Test.YtbipnnjkddffbaaW1
import Derived.Test.YtbipnnjkddffbaaBase2
namespace Go.Proofs.Ytbipnnjkddffbaa
open Go.RowKit
set_option linter.unusedSimpArgs false
set_option linter.unusedVariables false
attribute [local go_sem] BelowBy.cell BelowBy.cell_drew stillUpon givesUpon

theorem szGlue_any (s : ByteArray) (t left : Int) (w : World) (h0 : 0 ≤ left) (h1 : left ≤ 1048576) (hs : s.size ≤ 9223372036854775807) :
    Calls Try.prog 57 #[.agg #[.string s, .int .i64 t], .int .i64 left] w (SzRes w left ((s.size : Int) ≤ left)) := by
  by_cases h : (s.size : Int) ≤ left
  · go_enter Try.func57, Try.ntmps57
    go_wp2
    go_ret
    exact ⟨_, rfl, .inr ⟨by omega, by omega, h⟩, bl_al (bl_refl _) _⟩
  · go_enter Try.func57, Try.ntmps57
    go_wp2
    go_ret
    exact ⟨_, rfl, .inl rfl, bl_al (bl_refl _) _⟩
theorem szInt64S_any (A : Option Addr) (n c : Nat) (left : Int) (w : World) (h0 : 0 ≤ left) (h1 : left ≤ 1048576) (hs : n ≤ 9223372036854775807) :
    Calls Try.prog 107 #[.slice A n c, .int .i64 left] w (SzRes w left ((n : Int) ≤ left)) := by
  by_cases h : (n : Int) ≤ left
  · go_enter Try.func107, Try.ntmps107
    go_wp2
    go_ret
    exact ⟨_, rfl, .inr ⟨by omega, by omega, h⟩, bl_refl _⟩
  · go_enter Try.func107, Try.ntmps107
    go_wp2
    go_ret
    exact ⟨_, rfl, .inl rfl, bl_refl _⟩
set_option maxHeartbeats 1000000 in
theorem szGlueS_any (A : Option Addr) (n c : Nat) (xs : List Gl) (left : Int) (w : World) (h : RdSl 2 RGl w A n xs) (h0 : 0 ≤ left) (h1 : left ≤ 1048576) (hn : n ≤ 9223372036854775807) (hx : ∀ e ∈ xs, e.name.size ≤ 9223372036854775807) :
    Calls Try.prog 24 #[.slice A n c, .int .i64 left] w (SzRes w left ((n : Int) ≤ left ∧ ∀ e ∈ xs, (e.name.size : Int) ≤ left)) := by
  by_cases hle : (n : Int) ≤ left
  · go_enter Try.func24, Try.ntmps24
    go_wp2
    go_loopg [1, 5] n (fun g l i wr => ∃ (k : Nat) (L : Int), k + g = n ∧ i = .int .i64 k ∧ l = .int .i64 L ∧ 0 ≤ L ∧ L ≤ left ∧ (∀ j e, j < k → xs[j]? = some e → (e.name.size : Int) ≤ left) ∧ Below w.heap.size w wr)
    case atStart => exact ⟨0, _, by omega, rfl, rfl, by omega, by omega, fun j e hj => by omega, Below.refl _ _⟩
    case round =>
      obtain ⟨k, L, hk, rfl, rfl, hL0, hL1, hok, hbw⟩ := hrel
      have r1 := h.below RGl.stable hbw
      by_cases hlt : k < n
      · obtain ⟨b, o, rfl, hb, hc⟩ := r1.ptr (by omega)
        obtain ⟨e, he⟩ := h.get hlt
        have HE := Lib.hid he
        obtain ⟨c1, c1b⟩ := hc k e he
        clear hc he r1
        go_wp2_with (go_at_call 57; refine (szGlue_any _ _ _ _ hL0 (by omega) (hx _ (List.mem_of_getElem? HE.out))).mono ?_; rintro e' w1 ⟨r, rfl, (rfl | ⟨hr0, hr1, hr2⟩), hb1⟩)
        · go_ret
          exact ⟨_, rfl, .inl rfl, bl_tr hbw hb1⟩
        · go_wp2
          go_roundg (n - (k + 1))
          case measure => omega
          case rel => exact ⟨k + 1, _, by omega, by go_num, rfl, by omega, by omega, fun j e' hj he' => (by
            rcases Nat.lt_succ_iff_lt_or_eq.1 hj with hj | rfl
            · exact hok j e' hj he'
            · obtain rfl := Option.some.inj (HE.out.symm.trans he'); omega), bl_tr hbw hb1⟩
      · obtain rfl : k = n := by omega
        go_wp2
        go_ret
        exact ⟨_, rfl, .inr ⟨hL0, hL1, hle, fun e he => by
          obtain ⟨j, hj, rfl⟩ := List.mem_iff_getElem.1 he
          exact hok j _ (by have := h.len; omega) (List.getElem?_eq_getElem hj)⟩, hbw⟩
  · go_enter Try.func24, Try.ntmps24
    go_wp2
    go_ret
    exact ⟨_, rfl, .inl rfl, bl_refl _⟩

end Go.Proofs.Ytbipnnjkddffbaa
