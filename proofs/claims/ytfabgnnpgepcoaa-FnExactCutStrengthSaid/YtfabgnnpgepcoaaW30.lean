/- Walks: a list of bonds copied; its bonds struck out that a condition meets; the strength of a cut. -/
import Derived.Test.YtfabgnnpgepcoaaW26
import Derived.Test.YtfabgnnpgepcoaaP3
import Derived.Test.YtfabgnnpgepcoaaW20
import Derived.Lib.LazyBuf
import Derived.Lib.SliceRun
namespace Go.Proofs.Ytfabgnnpgepcoaa
open Go.RowKit Go.Shelf
set_option linter.unusedSimpArgs false
set_option linter.unusedVariables false
attribute [local go_sem] BelowBy.cell BelowBy.cell_drew stillUpon givesUpon BelowBy.cell_drew2 BelowBy.cell_drew3

theorem bdCells_one (bs : List Bd) : ∀ u ∈ bdCells bs, u.oneCell' = true := by
  induction bs with
  | nil => simp [bdCells]
  | cons b l ih =>
    intro u hu
    simp only [bdCells, List.mem_cons] at hu
    rcases hu with rfl | rfl | rfl | hu
    · rfl
    · rfl
    · rfl
    · exact ih u hu
def OwnRes (w : World) (bs : List Bd) (e : Ending) (w' : World) : Prop := ∃ v, e = .returned v ∧ w'.ownsRow w.heap.size 96 3 v bs.length (bdCells bs) ∧ Below w.heap.size w w'
set_option maxRecDepth 100000 in
set_option maxHeartbeats 1000000 in
theorem CloneB_any (base : Nat) (v : Value) (bs : List Bd) (w : World) (h : w.ownsRow base 96 3 v bs.length (bdCells bs)) (hn : bs.length ≤ 100000) :
    Calls Try.prog 135 #[v] w (OwnRes w bs) := by
  obtain ⟨i0, hi, hz0, hz1, hz2⟩ := info_parts infoBond
  rcases h.2 with ⟨rfl, h0⟩ | ⟨g, cap, cur, rfl, hb, hh, hnc, hm, hs, ht⟩
  · have hb : bs = [] := List.eq_nil_of_length_eq_zero h0
    subst hb
    have hq := fun W => Lib.run_eql_slice_nil (P := Try.prog) W 71 96 none 0 0 0 0 Try.underlying71
    clear h
    go_enter Try.func135, Try.ntmps135
    go_wp2
    go_ret
    exact ⟨_, rfl, World.ownsRow_nil _ _ _ _, bl_refl _⟩
  · have hq := fun W => Lib.run_eql_slice_nil (P := Try.prog) W 71 96 (some ⟨g, 0, none⟩) bs.length cap 0 0 Try.underlying71
    have hcell := h.cells (g := g) rfl
    have hcellH := Lib.hid hcell
    have hlt := (Array.getElem?_eq_some_iff.1 hh).1
    have hlen := h.1
    have hlenH := Lib.hid hlen
    clear h hcell hh hs ht hlen
    obtain ⟨L, hL⟩ : ∃ L, bs.length = L := ⟨_, rfl⟩
    rw [hL] at hn hnc hlenH hq
    rw [hL]
    have hLH := Lib.hid hL
    clear hL
    go_enter Try.func135, Try.ntmps135
    go_wp2_with (at_builtin; go_loud (refine wpList_append_own _ rfl _ _ 71 rfl w.heap.size 96 i0 (.agg #[.int .i64 0, .int .i64 0, .int .i64 0]) 3 24 Try.underlying71 hi hz0 hz1 hz2 rfl (by decide) _ 0 [] rfl (World.ownsRow_made _ _ _ (Nat.le_refl _) (by decide) rfl) ⟨g, 0, none⟩ L cap (bdCells bs) rfl hlenH.out (fun j u hj => (World.cell?_alloc_lt _ _ _ (by rw [Addr.add_lit]; exact hlt)).trans (hcellH.out j u hj)) (bdCells_one bs) (by unfold maxLen; omega) (by omega) (by simp) ?_); intro v' w3 hown' hgrow _)
    go_ret
    refine ⟨_, rfl, ?_, ((Below.refl w.heap.size w).alloc (Nat.le_refl _) _).grown hgrow (by simp) (fun b' hb' => ?_)⟩
    · rw [hLH.out]
      simpa using hown'
    · have hb2 : some w.heap.size = some b' := hb'
      injection hb2 with hb3
      exact Nat.le_of_eq hb3
/-- what is struck out of a cut's bonds -/
def cutDel (ps : List Int) (b : Bd) : Bool := hasB ps b.a == hasB ps b.b
set_option maxHeartbeats 1000000 in
theorem cut1_any (p : Nat) (A : Option Addr) (n c : Nat) (ps : List Int) (e : Bd) (w : World) (hp : w.cell? ⟨p, 0, none⟩ = some (.slice A n c)) (hlt : p < w.heap.size) (h : RdSl 1 RInt w A n ps) (hn : n ≤ 1073741824) :
    Calls Try.prog 136 #[.agg #[.int .i64 (e.a : Int), .int .i64 (e.b : Int), .int .i64 e.s], .pointer (some ⟨p, 0, none⟩)] w fun e' w' => e' = .returned (.bool (cutDel ps e)) ∧ Below w.heap.size w w' := by
  have hH := Lib.hid h
  have hpl := Nat.le_of_lt hlt
  clear h
  go_enter Try.func136, Try.ntmps136
  go_wp2
  refine wp_region_ord [(0, .q), (1, .q), (2, .q), (4, .q), (5, .q), (6, .q), (3, .g), (7, .g), (8, .q), (9, .q)] (by kernel_rfl) (by kernel_rfl) ?_
  simp only [pick, List.filterMap_cons, List.filterMap_nil, List.getElem?_toArray, List.getElem?_cons_zero, List.getElem?_cons_succ, Option.map_some]
  repeat (first
    | ((with_reducible refine wpD_p (fun K hK => ?_)); go_simp; refine hK _ ?_; clear hK K)
    | ((with_reducible refine wpD_q (fun K hK => ?_)); go_simp; (first | refine hK _ ?_ | (go_bits; refine hK _ ?_) | (go_bits; go_simp; refine hK _ ?_)); clear hK K)
    | ((with_reducible refine wpD_g (fun K hK => ?_)); go_simp; refine hK _ _ ?_; clear hK K)
    | ((with_reducible refine wpD_g (fun K hK => ?_)); go_simp; refine ⟨Grew.of_alloc _, hK _ _ ?_⟩; clear hK K)
    | ((with_reducible refine wpD_g (fun K hK => ?_)); go_simp; go_at_call 137; refine (ContainsI_any _ _ _ ps _ _ (hH.out.below RInt.stable (by repeat (first | with_reducible exact bl_refl _ | with_reducible assumption | with_reducible refine bl_al ?_ _ | with_reducible refine bl_dr ?_ | with_reducible refine bl_tr ?_ (by assumption) | with_reducible refine bl_set ?_ ?_ _ | with_reducible exact Nat.le_refl _ | omega | (simp only [World.size_alloc, World.size_setCell, World.size_drew] at *; omega) | (dsimp only; omega) | (simp; done) | (simp; omega)))) hn).mono ?_; rintro e _ ⟨rfl, rfl⟩; refine ⟨_, rfl, Below.refl _ _, hK _ _ ?_⟩; clear hK K))
  with_reducible refine wpD_nil ?_
  go_wp2
  go_ret
  exact ⟨ret_bool rfl, by repeat (first | with_reducible exact bl_refl _ | with_reducible assumption | with_reducible refine bl_al ?_ _ | with_reducible refine bl_dr ?_ | with_reducible refine bl_tr ?_ (by assumption) | with_reducible refine bl_set ?_ ?_ _ | with_reducible exact Nat.le_refl _ | omega | (simp only [World.size_alloc, World.size_setCell, World.size_drew] at *; omega) | (dsimp only; omega) | (simp; done) | (simp; omega))⟩
def FirstK (w : World) (n : Nat) (del : Nat → Bool) (e : Ending) (w' : World) : Prop :=
  ((e = .returned (.int .i64 (-1)) ∧ ∀ j, j < n → del j = false) ∨ ∃ k : Nat, k < n ∧ e = .returned (.int .i64 (k : Int)) ∧ del k = true ∧ ∀ j, j < k → del j = false) ∧ Below w.heap.size w w'
def delAt (ps : List Int) (bs : List Bd) (j : Nat) : Bool := match bs[j]? with
  | none => false
  | some b => cutDel ps b
theorem delAt_eq {ps : List Int} {bs : List Bd} {j : Nat} {b : Bd} (h : bs[j]? = some b) : delAt ps bs j = cutDel ps b := by unfold delAt; rw [h]
set_option maxHeartbeats 1000000 in
theorem IndexFuncB_any (p : Nat) (A P_ : Option Addr) (n c np cp : Nat) (ps : List Int) (bs : List Bd) (w : World) (hp : w.cell? ⟨p, 0, none⟩ = some (.slice P_ np cp)) (hlt : p < w.heap.size) (h : RdSl 1 RInt w P_ np ps) (hnp : np ≤ 1073741824) (hB : RdSl 3 RBd w A n bs) (hn : n ≤ 100000) :
    Calls Try.prog 172 #[.slice A n c, .func (.func 136) #[] #[.pointer (some ⟨p, 0, none⟩)]] w (FirstK w n (delAt ps bs)) := by
  have hH := Lib.hid h
  clear h
  go_enter Try.func172, Try.ntmps172
  go_wp2
  go_loopg [8] n (fun r x wr => ∃ k : Nat, k + r = n ∧ x = .int .i64 (k : Int) ∧ Hid (∀ j, j < k → delAt ps bs j = false) ∧ Below w.heap.size w wr)
  case atStart => exact ⟨0, by omega, rfl, Lib.hid (fun j hj => by omega), bl_refl _⟩
  case round =>
    obtain ⟨k, hk, rfl, hno, hbw⟩ := hrel
    have g1 := (hbw.cell (p := ⟨p, 0, none⟩) hlt).trans hp
    have gp := Nat.lt_of_lt_of_le hlt hbw.size
    have hB' := hB.below RBd.stable hbw
    by_cases hkn : k < n
    · obtain ⟨b, o, rfl, hb, hc⟩ := hB'.ptr (by omega)
      obtain ⟨e, he⟩ := hB.get hkn
      obtain ⟨c0, c1, c2⟩ := hc k e he
      have hd := delAt_eq (ps := ps) he
      cases hv : cutDel ps e
      · have hdH := Lib.hid (hd.trans hv)
        have hvH := Lib.hid hv
        clear hc he hB hB' hd hv
        go_wp2_with fail
        refine (cut1_any p P_ np cp ps e _ g1 gp (hH.out.below RInt.stable hbw) hnp).mono ?_
        rw [hvH.out]
        rintro e' w1 ⟨rfl, hb1⟩
        go_wp2
        go_roundg (n - (k + 1))
        case measure => omega
        case rel => exact ⟨k + 1, by omega, by go_num, Lib.hid (fun j hj => by
          rcases Nat.lt_succ_iff_lt_or_eq.1 hj with hj | rfl
          · exact hno.out j hj
          · exact hdH.out), bl_tr hbw hb1⟩
      · have hdH := Lib.hid (hd.trans hv)
        have hvH := Lib.hid hv
        clear hc he hB hB' hd hv
        go_wp2_with fail
        refine (cut1_any p P_ np cp ps e _ g1 gp (hH.out.below RInt.stable hbw) hnp).mono ?_
        rw [hvH.out]
        rintro e' w1 ⟨rfl, hb1⟩
        go_wp2
        go_ret
        exact ⟨Or.inr ⟨k, hkn, rfl, hdH.out, hno.out⟩, bl_tr hbw hb1⟩
    · obtain rfl : k = n := by omega
      clear hB'
      go_wp2
      go_ret
      exact ⟨Or.inl ⟨rfl, hno.out⟩, hbw⟩
end Go.Proofs.Ytfabgnnpgepcoaa
