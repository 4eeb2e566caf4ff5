/- Walks: slices.IndexFunc and ContainsFunc at the fires of a signal tile. -/
import Derived.Test.YtbipnnjkddffbaaSg5
namespace Go.Proofs.Ytbipnnjkddffbaa
open Go.RowKit
set_option linter.unusedSimpArgs false
set_option linter.unusedVariables false
attribute [local go_sem] BelowBy.cell BelowBy.cell_drew stillUpon givesUpon

/-- the test of fire j -/
def okFi (sd : List Int) (fs : List Fi) (j : Nat) : Bool := match fs[j]? with
  | some f => fireOk sd f
  | none => true
def FirstS (w : World) (n : Nat) (ok : Nat → Bool) (e : Ending) (w' : World) : Prop := ∃ r : Int, e = .returned (.int .i64 r) ∧ decide (0 ≤ r) = (!allB n ok) ∧ Below w.heap.size w w'
theorem IndexFuncFi_any (p : Nat) (A B : Option Addr) (c n d : Nat) (sd : List Int) (fs : List Fi) (w : World) (lp : p < w.heap.size) (c1 : w.cell? ⟨p, 1, none⟩ = some (.slice A 4 c)) (hs : RdSl 1 RInt w A 4 sd) (hx : RdSl 2 RFi w B n fs) (hn : n ≤ 9223372036854775807) :
    Calls Try.prog 152 #[.slice B n d, .func (.func 124) #[] #[.pointer (some ⟨p, 0, none⟩)]] w (FirstS w n (okFi sd fs)) := by
  have hsH := Lib.hid hs
  have hxH := Lib.hid hx
  clear hs hx
  go_enter Try.func152, Try.ntmps152
  go_wp2
  go_loopg [8] n (fun r x wr => ∃ k : Nat, k + r = n ∧ x = .int .i64 k ∧ (∀ j, j < k → okFi sd fs j = true) ∧ Below w.heap.size w wr)
  case atStart => exact ⟨0, by omega, rfl, fun j hj => by omega, Below.refl _ _⟩
  case round =>
    obtain ⟨k, hk, rfl, hok, hbw⟩ := hrel
    have hok := Lib.hid hok
    have hx1 := hxH.out.below RFi.stable hbw
    have hs1 := Lib.hid (hsH.out.below RInt.stable hbw)
    have d1 := (hbw.cell (p := ⟨p, 1, none⟩) lp).trans c1
    have lp1 : p < wr.heap.size := Nat.lt_of_lt_of_le lp hbw.size
    by_cases hkn : k < n
    · obtain ⟨b, o, rfl, hb, hc⟩ := hx1.ptr (by omega)
      obtain ⟨v, hv⟩ := hx1.get hkn
      obtain ⟨c0, c0b⟩ := hc k v hv
      have HS : okFi sd fs k = fireOk sd v := by unfold okFi; rw [hv]
      have HS := Lib.hid HS
      clear hc hv hx1
      cases hv4 : fireOk sd v
      · go_wp2_with (go_at_call 124; refine (signalsOk1_any p A c sd v _ lp1 d1 hs1.out).mono ?_; rw [hv4]; rintro e w1 ⟨rfl, hb1⟩)
        go_ret
        exact ⟨_, rfl, by rw [allB_false hkn (by rw [HS.out, hv4])]; simp, bl_tr hbw hb1⟩
      · go_wp2_with (go_at_call 124; refine (signalsOk1_any p A c sd v _ lp1 d1 hs1.out).mono ?_; rw [hv4]; rintro e w1 ⟨rfl, hb1⟩)
        go_roundg (n - (k + 1))
        case measure => omega
        case rel => exact ⟨k + 1, by omega, by go_num, fun j hj => (by rcases Nat.lt_succ_iff_lt_or_eq.1 hj with hj | rfl; exact hok.out j hj; rw [HS.out, hv4]), bl_tr hbw hb1⟩
    · obtain rfl : k = n := by omega
      go_wp2
      go_ret
      exact ⟨_, rfl, by rw [allB_true hok.out]; simp, hbw⟩
theorem ContainsFuncFi_any (p : Nat) (A B : Option Addr) (c n d : Nat) (sd : List Int) (fs : List Fi) (w : World) (lp : p < w.heap.size) (c1 : w.cell? ⟨p, 1, none⟩ = some (.slice A 4 c)) (hs : RdSl 1 RInt w A 4 sd) (hx : RdSl 2 RFi w B n fs) (hn : n ≤ 9223372036854775807) :
    Calls Try.prog 123 #[.slice B n d, .func (.func 124) #[] #[.pointer (some ⟨p, 0, none⟩)]] w fun e w' => e = .returned (.bool (!allB n (okFi sd fs))) ∧ Below w.heap.size w w' := by
  go_enter Try.func123, Try.ntmps123
  go_wp2_with (go_at_call 152; refine (IndexFuncFi_any p A B c n d sd fs _ lp c1 hs hx hn).mono ?_; rintro e w1 ⟨r, rfl, hr, hb1⟩)
  go_ret
  exact ⟨rfl, hb1⟩
end Go.Proofs.Ytbipnnjkddffbaa
