/- Walks: the reference's greatest flow. -/
import Derived.Test.YtfabgnnpgepcoaaGreatS4
import Derived.Test.YtfabgnnpgepcoaaGreatF7
namespace Go.Proofs.YtfabgnnpgepcoaaGreat
open Go.RowKit Go.Shelf
set_option linter.unusedSimpArgs false
set_option linter.unusedVariables false
attribute [local go_sem] BelowBy.cell BelowBy.cell_drew stillUpon givesUpon BelowBy.cell_drew2 BelowBy.cell_drew3

def FlowRes (w : World) (n : Nat) (B : Option Addr) (m c : Nat) (bs : List Bd) (x y : Nat) (e : Ending) (w' : World) : Prop := ∃ p gF vA uA, e = .returned (.tuple #[.pointer (some ⟨p, 0, none⟩), .int .i64 (flowV n bs x y : Int)]) ∧
  SNet w w' p n gF B m c bs.length bs (iterF n bs x y (flowV n bs x y)) vA uA
set_option maxRecDepth 100000 in
set_option maxHeartbeats 2000000 in
theorem l07Flow_any (n x y : Nat) (B : Option Addr) (m c : Nat) (bs : List Bd) (w : World) (hB : RdSl 3 RBd w B m bs) (hb : BondsOk n bs) (hx : x < n) (hy : y < n) (hxy : x ≠ y) (hn : n ≤ 100000) (hm : m ≤ 100000) :
    Calls Tryz.prog 27 #[.int .i64 (n : Int), .slice B m c, .int .i64 (x : Int), .int .i64 (y : Int)] w (FlowRes w n B m c bs x y) := by
  have hBH := Lib.hid hB
  have hbH := Lib.hid hb
  have hml := Lib.hid hB.len
  clear hB hb
  go_enter Tryz.func27, Tryz.ntmps27
  go_wp2_with (go_at_call 47; refine (l07New_any n B m c bs _ hBH.out hbH.out (by omega) hn hm).mono ?_; rintro e w1 ⟨p, gF, vA, uA, rfl, hS0⟩; have hS0H := Lib.hid hS0; clear hS0)
  go_loopg [11] (8 * m + 1) (fun gk v wr => ∃ (k : Nat) (vA : Value) (uA : List Value), k + gk = 8 * m + 1 ∧ v = .int .i64 (k : Int) ∧ Hid (∀ j, j < k → ¬ stopF n bs x y j) ∧ Hid (SNet w wr p n gF B m c bs.length bs (iterF n bs x y k) vA uA))
  case atStart => exact ⟨0, vA, uA, by omega, rfl, Lib.hid (fun j hj => by omega), hS0H⟩
  case round =>
    clear hS0H
    obtain ⟨k, vA, uA, hk, rfl, hns, hS⟩ := hrel
    have hinv := Lib.hid (iterF_inv hbH.out x y k)
    cases hw : wayTo n (edgeB bs (iterF n bs x y k)) x y with
    | none =>
      have hstop := Lib.hid (show stopF n bs x y k from hw)
      have hv := Lib.hid (flowV_eq hstop.out hns.out)
      have hwH := Lib.hid hw
      clear hw
      go_wp2_with (go_at_call 48; refine (grow_any p n gF B m c x y bs _ vA uA _ hS.out hBH.out hbH.out hinv.out hx hy hn hm).mono ?_; rintro e w2 hg; unfold GrowRes at hg; rw [hwH.out] at hg; obtain ⟨rfl, hS2⟩ := hg; have hS2H := Lib.hid hS2; clear hS2)
      go_ret2
      unfold FlowRes
      rw [hv.out]
      exact ⟨p, gF, vA, uA, rfl, hS2H.out⟩
    | some W =>
      have hnstop := Lib.hid (show ¬ stopF n bs x y k from fun h => by rw [stopF, hw] at h; cases h)
      have hwH := Lib.hid hw
      clear hw
      have hns2 := Lib.hid (show ∀ j, j < k + 1 → ¬ stopF n bs x y j from fun j hj => by
        rcases Nat.lt_succ_iff_lt_or_eq.1 hj with hj | rfl
        · exact hns.out j hj
        · exact hnstop.out)
      have hleft := iterF_left hbH.out hx hxy (k := k + 1) hns2.out
      have hk8 : k + 1 ≤ 8 * m := by have := hml.out; omega
      go_wp2_with (go_at_call 48; refine (grow_any p n gF B m c x y bs _ vA uA _ hS.out hBH.out hbH.out hinv.out hx hy hn hm).mono ?_; rintro e w2 hg; unfold GrowRes at hg; rw [hwH.out] at hg; obtain ⟨rfl, hS2⟩ := hg; have hS2H := Lib.hid hS2; clear hS2)
      go_roundg (8 * m + 1 - (k + 1))
      case measure => omega
      case rel =>
        refine ⟨k + 1, vA, uA, by omega, by go_num, hns2, Lib.hid ?_⟩
        have h := hS2H.out
        simp only [iterF, hwH.out]
        exact h
theorem ownsRow_rebase {w : World} {base base' : Nat} {e : TypeId} {s n : Nat} {x : Value} {xs : List Value} (h : w.ownsRow base e s x n xs) (hb : base' ≤ base) : w.ownsRow base' e s x n xs :=
  ⟨h.1, h.2.imp id (fun ⟨g, cap, cur, h1, h2, h3⟩ => ⟨g, cap, cur, h1, Nat.le_trans hb h2, h3⟩)⟩
theorem leftI_nonneg {l : Nat → Option Nat} {v : Nat} (h : (l v).isSome = true) : ∃ d : Nat, leftI l v = (d : Int) := by
  unfold leftI
  cases hl : l v with
  | none => rw [hl] at h; cases h
  | some d => exact ⟨d, rfl⟩
theorem leftI_neg {l : Nat → Option Nat} {v : Nat} (h : (l v).isSome = false) : leftI l v = -1 := by
  unfold leftI
  cases hl : l v with
  | none => rfl
  | some d => rw [hl] at h; cases h
set_option maxRecDepth 100000 in
set_option maxHeartbeats 2000000 in
theorem side_any {w0 : World} (p n gF : Nat) (B : Option Addr) (m c y : Nat) (bs : List Bd) (f : Nat → Int) (vA : Value) (uA : List Value) (w : World) (h : SNet w0 w p n gF B m c bs.length bs f vA uA) (hB : RdSl 3 RBd w0 B m bs) (hbo : BondsOk n bs) (hinv : InvF bs f) (hy : y < n) (hn : n ≤ 100000) (hm : m ≤ 100000) :
    Calls Tryz.prog 41 #[.pointer (some ⟨p, 0, none⟩), .int .i64 (y : Int)] w (OwnI w (leadL n (edgeB bs f) y n)) := by
  obtain ⟨i1, hi', hz0', hz1', hz2'⟩ := info_parts infoI
  have hN := Lib.hid h
  have hBH := Lib.hid hB
  have hboH := Lib.hid hbo
  have hinvH := Lib.hid hinv
  have lp := h.lt
  have k0 := h.c0
  clear h hB hbo hinv
  go_enter Tryz.func41, Tryz.ntmps41
  go_wp2_with (go_at_call 63; refine (steps_any p n gF B m c y bs f vA uA _ hN.out hBH.out hboH.out hinvH.out hy hn hm).mono ?_; rintro e w1 ⟨g, cg, rfl, hrow, hb1⟩; have hrowH := Lib.hid hrow; have hb1H := Lib.hid hb1; have lx := (hrow.lt g rfl); have hs1 := hb1.size; clear hrow hb1)
  obtain ⟨lx1, lx2⟩ := lx
  obtain ⟨wa, rfl⟩ : ∃ wa : World, wa = w1 := ⟨_, rfl⟩
  go_loopg [6, 7] n (fun gk q v wr => ∃ k : Nat, k + gk = n ∧ v = .int .i64 (k : Int) ∧ Hid (wr.ownsRow wa.heap.size 2 1 q (leadL n (edgeB bs f) y k).length ((intsI (leadL n (edgeB bs f) y k)).map (Value.int .i64))) ∧ Hid (Below wa.heap.size wa wr))
  case atStart => exact ⟨0, by omega, rfl, Lib.hid (by have := World.ownsRow_lit (base := wa.heap.size) (e := 2) (size := 1) wa #[] 0 (Nat.le_refl _) (by decide) rfl; simpa [leadL, intsI] using this), Lib.hid (bl_al (bl_refl _) _)⟩
  case round =>
    obtain ⟨k, hk, rfl, hrow, hbw⟩ := hrel
    have hsz := hbw.out.size
    obtain ⟨A1, c1, rfl⟩ := ownsRow_form hrow.out
    have k1 := ((hbw.out.cell (p := ⟨p, 0, none⟩) (by show p < _; omega)).trans (hb1H.out.cell (p := ⟨p, 0, none⟩) lp)).trans k0
    have lp1 : p < wr.heap.size := by omega
    by_cases hkn : k < n
    · have cx := ((hbw.out.cell (p := ⟨g, k, none⟩) lx2).trans (hrowH.out.cellAt k (by omega))).trans (rowL_get hkn)
      have lg2 : g < wr.heap.size := by omega
      by_cases hd : (distTo n (edgeB bs f) y k).isSome = true
      · obtain ⟨d, hdE⟩ := leftI_nonneg hd
        rw [hdE] at cx
        have hdH := Lib.hid hd
        have hll := leadL_len n (edgeB bs f) y k
        obtain ⟨N, hNE⟩ : ∃ N, (leadL n (edgeB bs f) y k).length = N := ⟨_, rfl⟩
        rw [hNE] at hrow hll ⊢
        have hNH := Lib.hid hNE
        clear hd hdE hNE
        go_wp2_with (at_builtin; refine wpList_append_own _ rfl _ _ 45 rfl wa.heap.size 2 i1 (.int .i64 0) 1 8 Tryz.underlying45 hi' hz0' hz1' hz2' rfl (by decide) _ N ((intsI (leadL n (edgeB bs f) y k)).map (Value.int .i64)) rfl (hrow.out.alloc _) ⟨wr.heap.size, 0, none⟩ 1 1 [.int .i64 (k : Int)] rfl rfl (cell_one_new _ _ _) (fun x hx => by simp at hx; subst hx; rfl) (by unfold maxLen; omega) (by omega) (by simp; omega) ?_; intro u3 w3 hown3 hgrow3 _; have hown3H := Lib.hid hown3; have hgrow3H := Lib.hid hgrow3; clear hown3 hgrow3)
        go_roundg (n - (k + 1))
        case measure => omega
        case rel =>
          refine ⟨k + 1, by omega, by go_num, Lib.hid ?_, Lib.hid (hbw.out.trans (below_app hsz (fun b e => (hrow.out.lt b e).1) hgrow3H.out))⟩
          rw [leadL_yes hdH.out, List.length_append, hNH.out]
          have h3 := hown3H.out
          simpa [intsI] using h3
      · have hd' : (distTo n (edgeB bs f) y k).isSome = false := by simpa using hd
        rw [leftI_neg hd'] at cx
        have hdH := Lib.hid hd'
        clear hd hd'
        go_wp2
        go_roundg (n - (k + 1))
        case measure => omega
        case rel => exact ⟨k + 1, by omega, by go_num, Lib.hid (by rw [leadL_no hdH.out]; exact hrow.out), hbw⟩
    · obtain rfl : k = n := by omega
      go_wp2
      go_ret
      exact ⟨_, rfl, ownsRow_rebase hrow.out hs1, hb1H.out.trans (hbw.out.mono hs1)⟩
end Go.Proofs.YtfabgnnpgepcoaaGreat
