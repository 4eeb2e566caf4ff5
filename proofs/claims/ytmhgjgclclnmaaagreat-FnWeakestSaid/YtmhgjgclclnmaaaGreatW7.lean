/- Walks: the closures of the program's checks. -/
import Derived.Test.YtmhgjgclclnmaaaGreatW6
import Derived.Test.YtmhgjgclclnmaaaGreatW2
namespace Go.Proofs.YtmhgjgclclnmaaaGreat
open Go.RowKit
set_option linter.unusedSimpArgs false
set_option linter.unusedVariables false
attribute [local go_sem] BelowBy.cell BelowBy.cell_drew stillUpon givesUpon
theorem isTile_any (A B : Option Addr) (n c m d : Nat) (t : Int) (w : World) (hm : m ≤ 140737488355328) :
    Calls Tryz.prog 106 #[.agg #[.slice A n c, .slice B m d], .int .i64 t] w fun e w' => e = .returned (.bool (inB t 0 (m - 1))) ∧ Below w.heap.size w w' := by
  go_enter Tryz.func106, Tryz.ntmps106
  go_wp2_with (go_at_call 101; refine (isIndex_any _ _ _ (by omega) (by omega)).mono ?_; rintro e _ ⟨rfl, rfl⟩)
  go_ret
  exact ⟨rfl, by exact bel_⟩
theorem ValidSet1_any (p : Nat) (A : Option Addr) (n c : Nat) (v : Int) (w : World) (h : w.cell? ⟨p, 0, none⟩ = some (.slice A n c)) (hp : p < w.heap.size) :
    Calls Tryz.prog 154 #[.int .i64 v, .pointer (some ⟨p, 0, none⟩)] w fun e w' => e = .returned (.bool (!inB v 0 n)) ∧ w = w' := by
  go_enter Tryz.func154, Tryz.ntmps154
  go_wp2_with (go_at_call 51; refine (within_any _ _ _ _).mono ?_; rintro e _ ⟨rfl, rfl⟩)
  go_ret
  exact ⟨rfl, rfl⟩
theorem ValidAssembly1_any (p : Nat) (A B : Option Addr) (n c m d : Nat) (e : Pl) (w : World) (h : w.cell? ⟨p, 0, none⟩ = some (.slice A n c)) (h2 : w.cell? ⟨p, 1, none⟩ = some (.slice B m d)) (hp : p < w.heap.size) (hm : m ≤ 140737488355328) :
    Calls Tryz.prog 105 #[.agg #[.int .i64 e.x, .int .i64 e.y, .int .i64 e.t], .pointer (some ⟨p, 0, none⟩)] w fun e' w' => e' = .returned (.bool (!inB e.t 0 (m - 1))) ∧ Below w.heap.size w w' := by
  go_enter Tryz.func105, Tryz.ntmps105
  go_wp2_with (go_at_call 106; refine (isTile_any _ _ _ _ _ _ _ _ hm).mono ?_; rintro e w1 ⟨rfl, hb1⟩; obtain ⟨chb1, fhb1, shb1, thb1⟩ := bcell hb1)
  go_ret
  refine ⟨rfl, ?_⟩
  exact bel_
/-- what IndexFunc says of a list and a test -/
def FirstRes (w : World) (n : Nat) (ok : Nat → Bool) (e : Ending) (w' : World) : Prop := ∃ r : Int, e = .returned (.int .i64 r) ∧ decide (0 ≤ r) = (!allB n ok) ∧ Below w.heap.size w w'
theorem IndexFuncI_any (p : Nat) (G A : Option Addr) (ng cg n c : Nat) (xs : List Int) (w : World) (h : w.cell? ⟨p, 0, none⟩ = some (.slice G ng cg)) (hp : p < w.heap.size) (hx : RdSl 1 RInt w A n xs) (hn : n ≤ 9223372036854775807) :
    Calls Tryz.prog 193 #[.slice A n c, .func (.func 154) #[] #[.pointer (some ⟨p, 0, none⟩)]] w (FirstRes w n (okSide ng xs)) := by
  go_enter Tryz.func193, Tryz.ntmps193
  go_wp2
  go_loopg [8] n (fun r x wr => ∃ k : Nat, k + r = n ∧ x = .int .i64 k ∧ (∀ j, j < k → okSide ng xs j = true) ∧ w = wr)
  case atStart => exact ⟨0, by omega, rfl, fun j hj => by omega, rfl⟩
  case round =>
    obtain ⟨k, hk, rfl, hok, rfl⟩ := hrel
    have hok := Lib.hid hok
    by_cases hkn : k < n
    · obtain ⟨b, o, rfl, hb, hc⟩ := hx.ptr (by omega)
      obtain ⟨v, hv⟩ := hx.get hkn
      have c0 := hc k v hv
      simp only [RInt, Nat.mul_one] at c0
      have HS : okSide ng xs k = inB v 0 ng := by unfold okSide; rw [hv]
      have HS := Lib.hid HS
      clear hc hv hx
      cases hv4 : inB v 0 ng
      · go_wp2_with (go_at_call 154; refine (ValidSet1_any _ _ _ _ _ _ h hp).mono ?_; rintro e _ ⟨rfl, rfl⟩)
        go_ret
        exact ⟨_, rfl, by rw [allB_false hkn (by rw [HS.out, hv4])]; simp, by exact bel_⟩
      · go_wp2_with (go_at_call 154; refine (ValidSet1_any _ _ _ _ _ _ h hp).mono ?_; rintro e _ ⟨rfl, rfl⟩)
        go_roundg (n - (k + 1))
        case measure => omega
        case rel => exact ⟨k + 1, by omega, by go_num, fun j hj => (by rcases Nat.lt_succ_iff_lt_or_eq.1 hj with hj | rfl; exact hok.out j hj; rw [HS.out, hv4]), rfl⟩
    · obtain rfl : k = n := by omega
      go_wp2
      go_ret
      exact ⟨_, rfl, by rw [allB_true hok.out]; simp, by exact bel_⟩
theorem ContainsFuncI_any (p : Nat) (G A : Option Addr) (ng cg n c : Nat) (xs : List Int) (w : World) (h : w.cell? ⟨p, 0, none⟩ = some (.slice G ng cg)) (hp : p < w.heap.size) (hx : RdSl 1 RInt w A n xs) (hn : n ≤ 9223372036854775807) :
    Calls Tryz.prog 153 #[.slice A n c, .func (.func 154) #[] #[.pointer (some ⟨p, 0, none⟩)]] w fun e w' => e = .returned (.bool (!allB n (okSide ng xs))) ∧ Below w.heap.size w w' := by
  go_enter Tryz.func153, Tryz.ntmps153
  go_wp2_with (go_at_call 193; refine (IndexFuncI_any _ _ _ _ _ _ _ xs _ h hp hx hn).mono ?_; rintro e w1 ⟨r, rfl, hr, hb1⟩)
  go_ret
  refine ⟨rfl, ?_⟩
  exact bel_
def okTile (m : Nat) (xs : List Pl) (j : Nat) : Bool := match xs[j]? with
  | none => true
  | some e => inB e.t 0 (m - 1)
theorem IndexFuncP_any (p : Nat) (A B C : Option Addr) (ng cg m d n c : Nat) (xs : List Pl) (w : World) (h : w.cell? ⟨p, 0, none⟩ = some (.slice A ng cg)) (h2 : w.cell? ⟨p, 1, none⟩ = some (.slice B m d)) (hp : p < w.heap.size) (hm : m ≤ 140737488355328)
    (hx : RdSl 3 RPl w C n xs) (hn : n ≤ 9223372036854775807) :
    Calls Tryz.prog 155 #[.slice C n c, .func (.func 105) #[] #[.pointer (some ⟨p, 0, none⟩)]] w (FirstRes w n (okTile m xs)) := by
  go_enter Tryz.func155, Tryz.ntmps155
  go_wp2
  go_loopg [8] n (fun r x wr => ∃ k : Nat, k + r = n ∧ x = .int .i64 k ∧ (∀ j, j < k → okTile m xs j = true) ∧ Below w.heap.size w wr)
  case atStart => exact ⟨0, by omega, rfl, fun j hj => by omega, by exact bel_⟩
  case round =>
    obtain ⟨k, hk, rfl, hok, hbw⟩ := hrel
    have hok := Lib.hid hok
    have g1 := (hbw.cell (p := ⟨p, 0, none⟩) hp).trans h
    have g2 := (hbw.cell (p := ⟨p, 1, none⟩) hp).trans h2
    have gp := Nat.lt_of_lt_of_le hp hbw.size
    have hx' := hx.below RPl.stable hbw
    by_cases hkn : k < n
    · obtain ⟨b, o, rfl, hb, hc⟩ := hx'.ptr (by omega)
      obtain ⟨e, he⟩ := hx.get hkn
      obtain ⟨c0, c1, c2⟩ := hc k e he
      have HS : okTile m xs k = inB e.t 0 (m - 1) := by unfold okTile; rw [he]
      have HS := Lib.hid HS
      clear hc he hx hx'
      cases hv4 : inB e.t 0 (m - 1)
      · go_wp2_with (go_at_call 105; refine (ValidAssembly1_any _ _ _ _ _ _ _ e _ g1 g2 gp hm).mono ?_; rintro e w1 ⟨rfl, hb1⟩; obtain ⟨chb1, fhb1, shb1, thb1⟩ := bcell hb1)
        go_ret
        exact ⟨_, rfl, by rw [allB_false hkn (by rw [HS.out, hv4])]; simp, by exact bel_⟩
      · go_wp2_with (go_at_call 105; refine (ValidAssembly1_any _ _ _ _ _ _ _ e _ g1 g2 gp hm).mono ?_; rintro e w1 ⟨rfl, hb1⟩; obtain ⟨chb1, fhb1, shb1, thb1⟩ := bcell hb1)
        go_roundg (n - (k + 1))
        case measure => omega
        case rel => exact ⟨k + 1, by omega, by go_num, fun j hj => (by rcases Nat.lt_succ_iff_lt_or_eq.1 hj with hj | rfl; exact hok.out j hj; rw [HS.out, hv4]), by exact bel_⟩
    · obtain rfl : k = n := by omega
      go_wp2
      go_ret
      exact ⟨_, rfl, by rw [allB_true hok.out]; simp, by exact bel_⟩
theorem ContainsFuncP_any (p : Nat) (A B C : Option Addr) (ng cg m d n c : Nat) (xs : List Pl) (w : World) (h : w.cell? ⟨p, 0, none⟩ = some (.slice A ng cg)) (h2 : w.cell? ⟨p, 1, none⟩ = some (.slice B m d)) (hp : p < w.heap.size) (hm : m ≤ 140737488355328)
    (hx : RdSl 3 RPl w C n xs) (hn : n ≤ 9223372036854775807) :
    Calls Tryz.prog 104 #[.slice C n c, .func (.func 105) #[] #[.pointer (some ⟨p, 0, none⟩)]] w fun e w' => e = .returned (.bool (!allB n (okTile m xs))) ∧ Below w.heap.size w w' := by
  go_enter Tryz.func104, Tryz.ntmps104
  go_wp2_with (go_at_call 155; refine (IndexFuncP_any _ _ _ _ _ _ _ _ _ _ xs _ h h2 hp hm hx hn).mono ?_; rintro e w1 ⟨r, rfl, hr, hb1⟩)
  go_ret
  refine ⟨rfl, ?_⟩
  exact bel_
end Go.Proofs.YtmhgjgclclnmaaaGreat
