/- Walks: a signal tile's check, and slices.ContainsFunc at signal tiles. -/
import Derived.Test.YtbipnnjkddffbaaSg6
namespace Go.Proofs.Ytbipnnjkddffbaa
open Go.RowKit
set_option linter.unusedSimpArgs false
set_option linter.unusedVariables false
attribute [local go_sem] BelowBy.cell BelowBy.cell_drew stillUpon givesUpon

/-- a bool of a list -/
def onAt (l : List Bool) (d : Int) : Bool := (l[d.toNat]?).getD false
theorem onAt_eq {l : List Bool} {k : Nat} {v : Bool} (h : l[k]? = some v) : onAt l (k : Int) = v := by unfold onAt; simp [h]
theorem sideAt_eq {l : List Int} {k : Nat} {v : Int} (h : l[k]? = some v) : sideAt l (k : Int) = v := by unfold sideAt; simp [h]
/-- a side that is on bears a glue -/
def okOn (e : Sti) (d : Nat) : Bool := !(onAt e.on d && decide (sideAt e.sides d = 0))
theorem okOn_f {e : Sti} {d : Nat} (h : e.on[d]? = some false) : okOn e d = true := by unfold okOn; rw [onAt_eq h]; rfl
theorem okOn_t {e : Sti} {d : Nat} {v : Int} (h : e.on[d]? = some true) (hv : e.sides[d]? = some v) : okOn e d = !decide (v = 0) := by unfold okOn; rw [onAt_eq h, sideAt_eq hv]; rfl
def okSt (e : Sti) : Bool := decide (e.on.length = 4) && (decide (e.fires.length ≤ 6) && (allB 4 (okOn e) && allB e.fires.length (okFi e.sides e.fires)))
theorem okSt_on {e : Sti} (h : ¬ e.on.length = 4) : okSt e = false := by unfold okSt; rw [decide_eq_false h]; rfl
theorem okSt_fi {e : Sti} (h : ¬ e.fires.length ≤ 6) : okSt e = false := by unfold okSt; rw [decide_eq_false h]; simp
theorem okSt_side {e : Sti} {d : Nat} (hd : d < 4) (h : okOn e d = false) : okSt e = false := by unfold okSt; rw [allB_false hd h]; simp
theorem okSt_fires {e : Sti} {b : Bool} (h1 : e.on.length = 4) (h2 : e.fires.length ≤ 6) (h : ∀ j, j < 4 → okOn e j = true) (h3 : allB e.fires.length (okFi e.sides e.fires) = b) : okSt e = b := by
  unfold okSt; rw [allB_true h, decide_eq_true h1, decide_eq_true h2, h3]; simp
set_option maxHeartbeats 2000000 in
theorem signalsOk_any (SA OA FA : Option Addr) (sc on oc fn fc : Nat) (e : Sti) (w : World) (hS : RdSl 1 RInt w SA 4 e.sides) (hO : RdSl 1 RBool w OA on e.on) (hF : RdSl 2 RFi w FA fn e.fires) (hon : on ≤ 1073741824) (hfn : fn ≤ 1073741824) :
    Calls Try.prog 72 #[.agg #[.string e.name, .slice SA 4 sc, .slice OA on oc, .slice FA fn fc]] w fun e' w' => e' = .returned (.bool (okSt e)) ∧ Below w.heap.size w w' := by
  have hlo := Lib.hid hO.len
  have hlf := Lib.hid hF.len
  have hls := Lib.hid hS.len
  have hSH := Lib.hid hS
  have hOH := Lib.hid hO
  have hFH := Lib.hid hF
  clear hS hO hF
  by_cases h4 : on = 4
  rotate_left
  · have h4' : ((on : Int) != 4) = true := by simp; omega
    have hr := Lib.hid (okSt_on (e := e) (by rw [hlo.out]; exact h4))
    clear h4
    go_enter Try.func72, Try.ntmps72
    go_wp2
    go_ret
    exact ⟨ret_bool hr.out.symm, by exact bel_⟩
  subst h4
  by_cases h6 : fn ≤ 6
  rotate_left
  · have hr := Lib.hid (okSt_fi (e := e) (by rw [hlf.out]; exact h6))
    go_enter Try.func72, Try.ntmps72
    go_wp2
    go_ret
    exact ⟨ret_bool hr.out.symm, by exact bel_⟩
  go_enter Try.func72, Try.ntmps72
  go_wp2
  go_loopg [18] 4 (fun r x wr => ∃ k : Nat, k + r = 4 ∧ x = .int .i64 k ∧ Hid (∀ j, j < k → okOn e j = true) ∧ Below w.heap.size w wr ∧ wr.cell? ⟨w.heap.size, 1, none⟩ = some (.slice SA 4 sc) ∧ wr.cell? ⟨w.heap.size, 3, none⟩ = some (.slice FA fn fc) ∧ w.heap.size < wr.heap.size)
  case atStart => exact ⟨0, by omega, rfl, Lib.hid (fun j hj => by omega), by exact bel_, by go_simp, by go_simp, by simp⟩
  case round =>
    obtain ⟨k, hk, rfl, hok, hbw, x1, x3, hsz⟩ := hrel
    by_cases hk4 : k < 4
    · have hO1 := hOH.out.below RBool.stable hbw
      have hS1 := hSH.out.below RInt.stable hbw
      obtain ⟨bo, oo, rfl, hbo, hco⟩ := hO1.ptr (by omega)
      obtain ⟨bs, os, rfl, hbs, hcs⟩ := hS1.ptr (by omega)
      obtain ⟨v, hv⟩ := hO1.get hk4
      obtain ⟨u, hu⟩ := hS1.get hk4
      have cv := hco k v hv
      have cu := hcs k u hu
      unfold RBool at cv
      unfold RInt at cu
      simp only [Nat.mul_one] at cv cu
      have hkI : (k : Int) < 4 := by omega
      have hvH := Lib.hid hv
      have huH := Lib.hid hu
      clear hco hcs hO1 hS1 hv hu
      cases v
      · have hr := Lib.hid (okOn_f hvH.out)
        go_wp2
        go_roundg (4 - (k + 1))
        case measure => omega
        case rel => exact ⟨k + 1, by omega, by go_num, Lib.hid fun j hj => (by rcases Nat.lt_succ_iff_lt_or_eq.1 hj with hj | rfl; exact hok.out j hj; exact hr.out), by exact bel_, by go_simp, by go_simp, by exact bel_⟩
      · by_cases hu0 : u = 0
        · subst hu0
          have hr := Lib.hid (okSt_side (e := e) hk4 (by rw [okOn_t hvH.out huH.out]; rfl))
          go_wp2
          go_ret
          exact ⟨ret_bool hr.out.symm, by exact bel_⟩
        · have hu2 : (u == 0) = false := by simp; omega
          have hr := Lib.hid (show okOn e k = true by rw [okOn_t hvH.out huH.out, decide_eq_false hu0]; rfl)
          clear hu0
          go_wp2
          go_roundg (4 - (k + 1))
          case measure => omega
          case rel => exact ⟨k + 1, by omega, by go_num, Lib.hid fun j hj => (by rcases Nat.lt_succ_iff_lt_or_eq.1 hj with hj | rfl; exact hok.out j hj; exact hr.out), by exact bel_, by go_simp, by go_simp, by exact bel_⟩
    · obtain rfl : k = 4 := by omega
      have hF1 := Lib.hid (hFH.out.below RFi.stable hbw)
      have hS1 := Lib.hid (hSH.out.below RInt.stable hbw)
      go_wp2_with (go_at_call 123; refine (ContainsFuncFi_any w.heap.size SA FA sc fn fc e.sides e.fires _ hsz x1 hS1.out hF1.out (by omega)).mono ?_; rintro e' w1 ⟨rfl, hb1⟩)
      go_ret
      refine ⟨ret_bool ?_, by exact bel_⟩
      rw [← hlf.out]
      exact (okSt_fires hlo.out (by rw [hlf.out]; exact h6) hok.out rfl).symm
theorem ValidSignalSet1_any (SA OA FA : Option Addr) (sc on oc fn fc : Nat) (e : Sti) (w : World) (hS : RdSl 1 RInt w SA 4 e.sides) (hO : RdSl 1 RBool w OA on e.on) (hF : RdSl 2 RFi w FA fn e.fires) (hon : on ≤ 1073741824) (hfn : fn ≤ 1073741824) :
    Calls Try.prog 71 #[.agg #[.string e.name, .slice SA 4 sc, .slice OA on oc, .slice FA fn fc]] w fun e' w' => e' = .returned (.bool (!okSt e)) ∧ Below w.heap.size w w' := by
  have hSH := Lib.hid hS
  have hOH := Lib.hid hO
  have hFH := Lib.hid hF
  clear hS hO hF
  go_enter Try.func71, Try.ntmps71
  go_wp2_with (go_at_call 72; refine (signalsOk_any SA OA FA sc on oc fn fc e _ (hSH.out.below RInt.stable (by exact bel_)) (hOH.out.below RBool.stable (by exact bel_)) (hFH.out.below RFi.stable (by exact bel_)) hon hfn).mono ?_; rintro e w1 ⟨rfl, hb1⟩; obtain ⟨chb1, fhb1, shb1, thb1⟩ := bcell hb1)
  go_ret
  exact ⟨rfl, by exact bel_⟩
/-- the test of tile j -/
def okStJ (ts : List Sti) (j : Nat) : Bool := match ts[j]? with
  | some e => okSt e
  | none => true
theorem okStJ_eq {ts : List Sti} {j : Nat} {e : Sti} (h : ts[j]? = some e) : okStJ ts j = okSt e := by unfold okStJ; rw [h]
/-- what the copies of signal tiles say of their rows' lengths -/
def SmSt (ts : List Sti) : Prop := ∀ (k : Nat) (e : Sti), ts[k]? = some e → e.sides.length = 4 ∧ e.on.length ≤ 1073741824 ∧ e.fires.length ≤ 1073741824
set_option maxHeartbeats 2000000 in
theorem IndexFuncSt_any (T : Option Addr) (n d : Nat) (ts : List Sti) (w : World) (hT : RdSl 4 RSti w T n ts) (hn : n ≤ 1073741824) (hts : SmSt ts) :
    Calls Try.prog 122 #[.slice T n d, .func (.func 71) #[] #[]] w (FirstS w n (okStJ ts)) := by
  have hTH := Lib.hid hT
  have htsH := Lib.hid hts
  clear hT hts
  go_enter Try.func122, Try.ntmps122
  go_wp2
  go_loopg [8] n (fun r x wr => ∃ k : Nat, k + r = n ∧ x = .int .i64 k ∧ Hid (∀ j, j < k → okStJ ts j = true) ∧ Below w.heap.size w wr)
  case atStart => exact ⟨0, by omega, rfl, Lib.hid (fun j hj => by omega), Below.refl _ _⟩
  case round =>
    obtain ⟨k, hk, rfl, hok, hbw⟩ := hrel
    have hT1 := hTH.out.below RSti.stable hbw
    by_cases hkn : k < n
    · obtain ⟨b, o, rfl, hb, hc⟩ := hT1.ptr (by omega)
      obtain ⟨e, he⟩ := hT1.get hkn
      obtain ⟨c0, ⟨SA, sn, sc, c1, hS⟩, ⟨OA, on, oc, c2, hO⟩, ⟨FA, fn, fc, c3, hF⟩⟩ := hc k e he
      obtain ⟨l1, l2, l3⟩ := htsH.out k e he
      rw [hS.len] at l1
      rw [hO.len] at l2
      rw [hF.len] at l3
      subst l1
      have HS := Lib.hid (okStJ_eq he)
      have hSH := Lib.hid hS
      have hOH := Lib.hid hO
      have hFH := Lib.hid hF
      clear hc he hT1 hS hO hF
      cases hv4 : okSt e
      · have hv4H := Lib.hid hv4
        clear hv4
        go_wp2_with (go_at_call 71; refine (ValidSignalSet1_any SA OA FA sc on oc fn fc e _ hSH.out hOH.out hFH.out l2 l3).mono ?_; rw [hv4H.out]; rintro e' w1 ⟨rfl, hb1⟩)
        go_ret
        exact ⟨_, rfl, by rw [allB_false hkn (by rw [HS.out, hv4H.out])]; simp, bl_tr hbw hb1⟩
      · have hv4H := Lib.hid hv4
        clear hv4
        go_wp2_with (go_at_call 71; refine (ValidSignalSet1_any SA OA FA sc on oc fn fc e _ hSH.out hOH.out hFH.out l2 l3).mono ?_; rw [hv4H.out]; rintro e' w1 ⟨rfl, hb1⟩)
        go_roundg (n - (k + 1))
        case measure => omega
        case rel => exact ⟨k + 1, by omega, by go_num, Lib.hid fun j hj => (by rcases Nat.lt_succ_iff_lt_or_eq.1 hj with hj | rfl; exact hok.out j hj; rw [HS.out, hv4H.out]), bl_tr hbw hb1⟩
    · obtain rfl : k = n := by omega
      go_wp2
      go_ret
      exact ⟨_, rfl, by rw [allB_true hok.out]; simp, hbw⟩
theorem ContainsFuncSt_any (T : Option Addr) (n d : Nat) (ts : List Sti) (w : World) (hT : RdSl 4 RSti w T n ts) (hn : n ≤ 1073741824) (hts : SmSt ts) :
    Calls Try.prog 70 #[.slice T n d, .func (.func 71) #[] #[]] w fun e w' => e = .returned (.bool (!allB n (okStJ ts))) ∧ Below w.heap.size w w' := by
  have hTH := Lib.hid hT
  have htsH := Lib.hid hts
  clear hT hts
  go_enter Try.func70, Try.ntmps70
  go_wp2_with (go_at_call 122; refine (IndexFuncSt_any T n d ts _ hTH.out hn htsH.out).mono ?_; rintro e w1 ⟨r, rfl, hr, hb1⟩)
  go_ret
  exact ⟨rfl, hb1⟩
end Go.Proofs.Ytbipnnjkddffbaa
