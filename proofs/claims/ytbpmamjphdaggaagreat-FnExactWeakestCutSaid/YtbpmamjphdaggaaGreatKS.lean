import Derived.Test.YtbpmamjphdaggaaGreatS4
import Derived.Test.YtbpmamjphdaggaaGreatF7
import Derived.Test.YtbpmamjphdaggaaGreatW17a
/- Walks: the reference's greatest flow. -/


namespace Go.Proofs.YtbpmamjphdaggaaGreat
open Go.RowKit Go.Shelf
set_option linter.unusedSimpArgs false
set_option linter.unusedVariables false
attribute [local go_sem] BelowBy.cell BelowBy.cell_drew stillUpon givesUpon BelowBy.cell_drew2 BelowBy.cell_drew3

def FlowRes (w : World) (n : Nat) (B : Option Addr) (m c : Nat) (bs : List Bd) (x y : Nat) (e : Ending) (w' : World) : Prop := ∃ p gF vA uA, e = .returned (.tuple #[.pointer (some ⟨p, 0, none⟩), .int .i64 (flowV n bs x y : Int)]) ∧
  SNet w w' p n gF B m c bs.length bs (iterF n bs x y (flowV n bs x y)) vA uA
set_option maxRecDepth 100000 in
set_option maxHeartbeats 2000000 in
theorem l07Flow_any (n x y : Nat) (B : Option Addr) (m c : Nat) (bs : List Bd) (w : World) (hB : RdSl 3 RBd w B m bs) (hb : BondsOk n bs) (hx : x < n) (hy : y < n) (hxy : x ≠ y) (hn : n ≤ 100000) (hm : m ≤ 100000) :
    Calls Tryz.prog 48 #[.int .i64 (n : Int), .slice B m c, .int .i64 (x : Int), .int .i64 (y : Int)] w (FlowRes w n B m c bs x y) := by
  have hBH := Lib.hid hB
  have hbH := Lib.hid hb
  have hml := Lib.hid hB.len
  clear hB hb
  go_enter Tryz.func48, Tryz.ntmps48
  go_wp2_with (go_at_call 91; refine (l07New_any n B m c bs _ hBH.out hbH.out (by omega) hn hm).mono ?_; rintro e w1 ⟨p, gF, vA, uA, rfl, hS0⟩; have hS0H := Lib.hid hS0; clear hS0)
  go_loopg [11] (8 * m + 1) (fun gk v wr => ∃ (k : Nat) (vA : Value) (uA : List Value), k + gk = 8 * m + 1 ∧ v = .int .i64 (k : Int) ∧ Hid (∀ j, j < k → ¬ stopF n bs x y j) ∧ Hid (SNet w wr p n gF B m c bs.length bs (iterF n bs x y k) vA uA))
  case atStart => exact ⟨0, vA, uA, by omega, rfl, Lib.hid (fun j hj => by omega), hS0H⟩
  case round =>
    clear hS0H
    obtain ⟨k, vA, uA, hk, rfl, hns, hS⟩ := hrel
    have hinv := Lib.hid (iterF_inv hbH.out x y k)
    cases hw : wayTo n (edgeB bs (iterF n bs x y k)) x y with
    | none =>
      have hstop := Lib.hid (show stopF n bs x y k from hw)
      have hv := Lib.hid (flowV_eq hstop.out hns.out)
      have hwH := Lib.hid hw
      clear hw
      go_wp2_with (go_at_call 92; refine (grow_any p n gF B m c x y bs _ vA uA _ hS.out hBH.out hbH.out hinv.out hx hy hn hm).mono ?_; rintro e w2 hg; unfold GrowRes at hg; rw [hwH.out] at hg; obtain ⟨rfl, hS2⟩ := hg; have hS2H := Lib.hid hS2; clear hS2)
      go_ret2
      unfold FlowRes
      rw [hv.out]
      exact ⟨p, gF, vA, uA, rfl, hS2H.out⟩
    | some W =>
      have hnstop := Lib.hid (show ¬ stopF n bs x y k from fun h => by rw [stopF, hw] at h; cases h)
      have hwH := Lib.hid hw
      clear hw
      have hns2 := Lib.hid (show ∀ j, j < k + 1 → ¬ stopF n bs x y j from fun j hj => by
        rcases Nat.lt_succ_iff_lt_or_eq.1 hj with hj | rfl
        · exact hns.out j hj
        · exact hnstop.out)
      have hleft := iterF_left hbH.out hx hxy (k := k + 1) hns2.out
      have hk8 : k + 1 ≤ 8 * m := by have := hml.out; omega
      go_wp2_with (go_at_call 92; refine (grow_any p n gF B m c x y bs _ vA uA _ hS.out hBH.out hbH.out hinv.out hx hy hn hm).mono ?_; rintro e w2 hg; unfold GrowRes at hg; rw [hwH.out] at hg; obtain ⟨rfl, hS2⟩ := hg; have hS2H := Lib.hid hS2; clear hS2)
      go_roundg (8 * m + 1 - (k + 1))
      case measure => omega
      case rel =>
        refine ⟨k + 1, vA, uA, by omega, by go_num, hns2, Lib.hid ?_⟩
        have h := hS2H.out
        simp only [iterF, hwH.out]
        exact h
theorem ownsRow_rebase {w : World} {base base' : Nat} {e : TypeId} {s n : Nat} {x : Value} {xs : List Value} (h : w.ownsRow base e s x n xs) (hb : base' ≤ base) : w.ownsRow base' e s x n xs :=
  ⟨h.1, h.2.imp id (fun ⟨g, cap, cur, h1, h2, h3⟩ => ⟨g, cap, cur, h1, Nat.le_trans hb h2, h3⟩)⟩
theorem leftI_nonneg {l : Nat → Option Nat} {v : Nat} (h : (l v).isSome = true) : ∃ d : Nat, leftI l v = (d : Int) := by
  unfold leftI
  cases hl : l v with
  | none => rw [hl] at h; cases h
  | some d => exact ⟨d, rfl⟩
theorem leftI_neg {l : Nat → Option Nat} {v : Nat} (h : (l v).isSome = false) : leftI l v = -1 := by
  unfold leftI
  cases hl : l v with
  | none => rfl
  | some d => rw [hl] at h; cases h
set_option maxRecDepth 100000 in
set_option maxHeartbeats 2000000 in
theorem side_any {w0 : World} (p n gF : Nat) (B : Option Addr) (m c y : Nat) (bs : List Bd) (f : Nat → Int) (vA : Value) (uA : List Value) (w : World) (h : SNet w0 w p n gF B m c bs.length bs f vA uA) (hB : RdSl 3 RBd w0 B m bs) (hbo : BondsOk n bs) (hinv : InvF bs f) (hy : y < n) (hn : n ≤ 100000) (hm : m ≤ 100000) :
    Calls Tryz.prog 62 #[.pointer (some ⟨p, 0, none⟩), .int .i64 (y : Int)] w (OwnI w (leadL n (edgeB bs f) y n)) := by
  obtain ⟨i1, hi', hz0', hz1', hz2'⟩ := info_parts infoI
  have hN := Lib.hid h
  have hBH := Lib.hid hB
  have hboH := Lib.hid hbo
  have hinvH := Lib.hid hinv
  have lp := h.lt
  have k0 := h.c0
  clear h hB hbo hinv
  go_enter Tryz.func62, Tryz.ntmps62
  go_wp2_with (go_at_call 107; refine (steps_any p n gF B m c y bs f vA uA _ hN.out hBH.out hboH.out hinvH.out hy hn hm).mono ?_; rintro e w1 ⟨g, cg, rfl, hrow, hb1⟩; have hrowH := Lib.hid hrow; have hb1H := Lib.hid hb1; have lx := (hrow.lt g rfl); have hs1 := hb1.size; clear hrow hb1)
  obtain ⟨lx1, lx2⟩ := lx
  obtain ⟨wa, rfl⟩ : ∃ wa : World, wa = w1 := ⟨_, rfl⟩
  go_loopg [6, 7] n (fun gk q v wr => ∃ k : Nat, k + gk = n ∧ v = .int .i64 (k : Int) ∧ Hid (wr.ownsRow wa.heap.size 2 1 q (leadL n (edgeB bs f) y k).length ((intsI (leadL n (edgeB bs f) y k)).map (Value.int .i64))) ∧ Hid (Below wa.heap.size wa wr))
  case atStart => exact ⟨0, by omega, rfl, Lib.hid (by have := World.ownsRow_lit (base := wa.heap.size) (e := 2) (size := 1) wa #[] 0 (Nat.le_refl _) (by decide) rfl; simpa [leadL, intsI] using this), Lib.hid (bl_al (bl_refl _) _)⟩
  case round =>
    obtain ⟨k, hk, rfl, hrow, hbw⟩ := hrel
    have hsz := hbw.out.size
    obtain ⟨A1, c1, rfl⟩ := ownsRow_form hrow.out
    have k1 := ((hbw.out.cell (p := ⟨p, 0, none⟩) (by show p < _; omega)).trans (hb1H.out.cell (p := ⟨p, 0, none⟩) lp)).trans k0
    have lp1 : p < wr.heap.size := by omega
    by_cases hkn : k < n
    · have cx := ((hbw.out.cell (p := ⟨g, k, none⟩) lx2).trans (hrowH.out.cellAt k (by omega))).trans (rowL_get hkn)
      have lg2 : g < wr.heap.size := by omega
      by_cases hd : (distTo n (edgeB bs f) y k).isSome = true
      · obtain ⟨d, hdE⟩ := leftI_nonneg hd
        rw [hdE] at cx
        have hdH := Lib.hid hd
        have hll := leadL_len n (edgeB bs f) y k
        obtain ⟨N, hNE⟩ : ∃ N, (leadL n (edgeB bs f) y k).length = N := ⟨_, rfl⟩
        rw [hNE] at hrow hll ⊢
        have hNH := Lib.hid hNE
        clear hd hdE hNE
        go_wp2_with (at_builtin; refine wpList_append_own _ rfl _ _ 31 rfl wa.heap.size 2 i1 (.int .i64 0) 1 8 Tryz.underlying31 hi' hz0' hz1' hz2' rfl (by decide) _ N ((intsI (leadL n (edgeB bs f) y k)).map (Value.int .i64)) rfl (hrow.out.alloc _) ⟨wr.heap.size, 0, none⟩ 1 1 [.int .i64 (k : Int)] rfl rfl (cell_one_new _ _ _) (fun x hx => by simp at hx; subst hx; rfl) (by unfold maxLen; omega) (by omega) (by simp; omega) ?_; intro u3 w3 hown3 hgrow3 _; have hown3H := Lib.hid hown3; have hgrow3H := Lib.hid hgrow3; clear hown3 hgrow3)
        go_roundg (n - (k + 1))
        case measure => omega
        case rel =>
          refine ⟨k + 1, by omega, by go_num, Lib.hid ?_, Lib.hid (hbw.out.trans (below_app hsz (fun b e => (hrow.out.lt b e).1) hgrow3H.out))⟩
          rw [leadL_yes hdH.out, List.length_append, hNH.out]
          have h3 := hown3H.out
          simpa [intsI] using h3
      · have hd' : (distTo n (edgeB bs f) y k).isSome = false := by simpa using hd
        rw [leftI_neg hd'] at cx
        have hdH := Lib.hid hd'
        clear hd hd'
        go_wp2
        go_roundg (n - (k + 1))
        case measure => omega
        case rel => exact ⟨k + 1, by omega, by go_num, Lib.hid (by rw [leadL_no hdH.out]; exact hrow.out), hbw⟩
    · obtain rfl : k = n := by omega
      go_wp2
      go_ret
      exact ⟨_, rfl, ownsRow_rebase hrow.out hs1, hb1H.out.trans (hbw.out.mono hs1)⟩
end Go.Proofs.YtbpmamjphdaggaaGreat
/- Small words: a result that is a row of numbers and a code. -/

namespace Go.Proofs.YtbpmamjphdaggaaGreat
open Go.RowKit Go.Shelf
set_option linter.unusedSimpArgs false
set_option linter.unusedVariables false

/-- a row of numbers and a code -/
def IntsRes (w : World) (r : List Int × Int) (e : Ending) (w' : World) : Prop :=
  ∃ A c, e = .returned (.tuple #[.slice A r.1.length c, .int .i64 r.2]) ∧ w'.ownsRow w.heap.size 2 1 (.slice A r.1.length c) r.1.length (r.1.map (Value.int .i64)) ∧ Below w.heap.size w w'
theorem rdI_of {W : World} {base : Nat} {v : Value} {bs : List Int} (h : W.ownsRow base 2 1 v bs.length (bs.map (Value.int .i64))) : ∃ A cap, v = .slice A bs.length cap ∧ RdSl 1 RInt W A bs.length bs := by
  rcases h.2 with ⟨rfl, h0⟩ | ⟨g, cap, cur, rfl, hb, hh, hn, hm, hs, ht⟩
  · exact ⟨none, 0, by rw [h0], rfl, fun hp => by omega⟩
  · refine ⟨_, cap, rfl, rfl, fun hp => ⟨g, 0, rfl, (Array.getElem?_eq_some_iff.1 hh).1, fun k hk => ?_⟩⟩
    have hg : (bs.map (Value.int .i64))[k]? = some (.int .i64 bs[k]) := by simp [hk]
    rw [← ht, List.getElem?_take] at hg
    split at hg
    · simp only [RInt, World.cell?, hh, Nat.zero_add, Nat.mul_one]
      simpa using hg
    · cases hg
theorem IntsRes.of {w w' : World} {r : List Int × Int} {bs : List Int} {c : Int} {v : Value} (h : (bs, c) = r) (hr : w'.ownsRow w.heap.size 2 1 v bs.length (bs.map (Value.int .i64))) (hb : Below w.heap.size w w') : IntsRes w r (.returned (.tuple #[v, .int .i64 c])) w' := by
  subst h
  obtain ⟨A, cap, rfl, _⟩ := rdI_of hr
  exact ⟨A, cap, rfl, hr, hb⟩
theorem rdI {W : World} {base : Nat} {A : Option Addr} {n c : Nat} {bs : List Int} (h : W.ownsRow base 2 1 (.slice A n c) n (bs.map (Value.int .i64))) (hn : n = bs.length := by rfl) : RdSl 1 RInt W A n bs := by
  subst hn
  obtain ⟨A', cap, e, h'⟩ := rdI_of h
  injection e with e1 e2 e3
  subst e1
  exact h'
/-- a number, a row of numbers and a code -/
def FluxRes (w : World) (r : Int × List Int × Int) (e : Ending) (w' : World) : Prop :=
  ∃ A c, e = .returned (.tuple #[.int .i64 r.1, .slice A r.2.1.length c, .int .i64 r.2.2]) ∧ w'.ownsRow w.heap.size 2 1 (.slice A r.2.1.length c) r.2.1.length (r.2.1.map (Value.int .i64)) ∧ Below w.heap.size w w'
theorem FluxRes.of {w w' : World} {r : Int × List Int × Int} {bs : List Int} {a c : Int} {v : Value} (h : (a, bs, c) = r) (hr : w'.ownsRow w.heap.size 2 1 v bs.length (bs.map (Value.int .i64))) (hb : Below w.heap.size w w') : FluxRes w r (.returned (.tuple #[.int .i64 a, v, .int .i64 c])) w' := by
  subst h
  obtain ⟨A, cap, rfl, _⟩ := rdI_of hr
  exact ⟨A, cap, rfl, hr, hb⟩
end Go.Proofs.YtbpmamjphdaggaaGreat
/- Walks: the reference's Connectivity, SeparatingPart. -/


namespace Go.Proofs.YtbpmamjphdaggaaGreat
open Go.RowKit Go.Shelf
set_option linter.unusedSimpArgs false
set_option linter.unusedVariables false
attribute [local go_sem] BelowBy.cell BelowBy.cell_drew stillUpon givesUpon BelowBy.cell_drew2 BelowBy.cell_drew3

theorem bondsOk {gs : List Gl} {ts : List Ti} {xs : List Pl} (hV : Valid gs ts xs) : BondsOk xs.length (bondsL gs ts xs) :=
  ⟨fun i e h => (bondsL_at hV h).1, fun i e h => (bondsL_at hV h).2.1, fun i e h => bondsL_ne h, fun i e h => (bondsL_at hV h).2.2⟩
theorem fullCode_zero {v : Bool} {q : Nat} {x y : Int} (h : fullCode v q x y = 0) : v = true ∧ ∃ xn yn : Nat, x = xn ∧ y = yn ∧ xn < q ∧ yn < q ∧ xn ≠ yn ∧ q ≤ 64 := by
  unfold fullCode at h
  split at h
  · rename_i hc; exact (hc h).elim
  · rename_i hc
    have hc : cutCodeI v q x y = 0 := by simpa using hc
    split at h
    · cases h
    · obtain ⟨h1, h2, h3, h4⟩ := cutCodeI_zero hc
      exact ⟨h1, x.toNat, y.toNat, by omega, by omega, by omega, by omega, by omega, by omega⟩
set_option maxRecDepth 100000 in
set_option maxHeartbeats 2000000 in
theorem l07Asked_at {p pa : Nat} {gs : List Gl} {ts : List Ti} {xs : List Pl} {w : World} (h : SAt w p pa gs ts xs) (x y : Int) {r : Int} (hr : fullCode (validAsmB gs ts xs) xs.length x y = r) :
    Calls Tryz.prog 47 #[.pointer (some ⟨p, 0, none⟩), .pointer (some ⟨pa, 0, none⟩), .int .i64 x, .int .i64 y] w fun e w' => e = .returned (.int .i64 r) ∧ Below w.heap.size w w' := by
  have hH := Lib.hid h
  have hq := h.q
  obtain ⟨lq, A, q, ca, cq, hA⟩ := h.a
  have hlen := hA.len
  rw [hlen] at hr hq
  have hrH := Lib.hid hr
  clear hr h hA
  cases hval : validAsmB gs ts xs
  · have h1 : r = 1 := by
      have := hrH.out
      rw [hval] at this
      exact this.symm
    subst h1
    go_enter Tryz.func47, Tryz.ntmps47
    go_wp2_with (go_at_call 64; refine (hH.out.asked hval).mono ?_; rintro e w1 ⟨rfl, hb1⟩; simp only [codeB_false])
    go_ret
    exact ⟨rfl, by repeat (first | with_reducible exact bl_refl _ | with_reducible assumption | with_reducible refine bl_al ?_ _ | with_reducible refine bl_dr ?_ | with_reducible refine bl_tr ?_ (by assumption) | with_reducible refine bl_set ?_ ?_ _ | with_reducible exact Nat.le_refl _ | omega | (simp only [World.size_alloc, World.size_setCell, World.size_drew] at *; omega) | (dsimp only; omega) | (simp; done) | (simp; omega))⟩
  · have hr1 : r = if inB x 0 ((q : Int) - 1) && (inB y 0 ((q : Int) - 1) && !(x == y)) then (if 64 < q then 4 else 0) else 2 := by
      have := hrH.out
      rw [hval] at this
      rw [← this]
      unfold fullCode cutCodeI
      cases inB x 0 ((q : Int) - 1) && (inB y 0 ((q : Int) - 1) && !(x == y)) <;> simp
    have hr1H := Lib.hid hr1
    clear hr1
    cases hx : inB x 0 ((q : Int) - 1)
    · have h2 : r = 2 := by have := hr1H.out; rw [hx] at this; simpa using this
      subst h2
      go_enter Tryz.func47, Tryz.ntmps47
      go_wp2_with (first
        | (go_at_call 64; refine (hH.out.asked hval).mono ?_; rintro e w1 ⟨rfl, hb1⟩; simp only [codeB_true]; have cq1 := (hb1.cell (p := ⟨pa, 0, none⟩) lq).trans cq; have lq1 : pa < w1.heap.size := Nat.lt_of_lt_of_le lq hb1.size)
        | (go_at_call 81; refine (l00In_any _ _ _ _).mono ?_; rintro e _ ⟨rfl, rfl⟩))
      go_ret
      exact ⟨rfl, by repeat (first | with_reducible exact bl_refl _ | with_reducible assumption | with_reducible refine bl_al ?_ _ | with_reducible refine bl_dr ?_ | with_reducible refine bl_tr ?_ (by assumption) | with_reducible refine bl_set ?_ ?_ _ | with_reducible exact Nat.le_refl _ | omega | (simp only [World.size_alloc, World.size_setCell, World.size_drew] at *; omega) | (dsimp only; omega) | (simp; done) | (simp; omega))⟩
    · cases hy : inB y 0 ((q : Int) - 1)
      · have h2 : r = 2 := by have := hr1H.out; rw [hx, hy] at this; simpa using this
        subst h2
        go_enter Tryz.func47, Tryz.ntmps47
        go_wp2_with (first
          | (go_at_call 64; refine (hH.out.asked hval).mono ?_; rintro e w1 ⟨rfl, hb1⟩; simp only [codeB_true]; have cq1 := (hb1.cell (p := ⟨pa, 0, none⟩) lq).trans cq; have lq1 : pa < w1.heap.size := Nat.lt_of_lt_of_le lq hb1.size)
          | (go_at_call 81; refine (l00In_any _ _ _ _).mono ?_; rintro e _ ⟨rfl, rfl⟩))
        go_ret
        exact ⟨rfl, by repeat (first | with_reducible exact bl_refl _ | with_reducible assumption | with_reducible refine bl_al ?_ _ | with_reducible refine bl_dr ?_ | with_reducible refine bl_tr ?_ (by assumption) | with_reducible refine bl_set ?_ ?_ _ | with_reducible exact Nat.le_refl _ | omega | (simp only [World.size_alloc, World.size_setCell, World.size_drew] at *; omega) | (dsimp only; omega) | (simp; done) | (simp; omega))⟩
      · cases hxy : (x == y)
        · by_cases h64 : 64 < q
          · have h4 : r = 4 := by have := hr1H.out; rw [hx, hy, hxy, if_pos h64] at this; simpa using this
            subst h4
            go_enter Tryz.func47, Tryz.ntmps47
            go_wp2_with (first
              | (go_at_call 64; refine (hH.out.asked hval).mono ?_; rintro e w1 ⟨rfl, hb1⟩; simp only [codeB_true]; have cq1 := (hb1.cell (p := ⟨pa, 0, none⟩) lq).trans cq; have lq1 : pa < w1.heap.size := Nat.lt_of_lt_of_le lq hb1.size)
              | (go_at_call 81; refine (l00In_any _ _ _ _).mono ?_; rintro e _ ⟨rfl, rfl⟩))
            go_ret
            exact ⟨rfl, by repeat (first | with_reducible exact bl_refl _ | with_reducible assumption | with_reducible refine bl_al ?_ _ | with_reducible refine bl_dr ?_ | with_reducible refine bl_tr ?_ (by assumption) | with_reducible refine bl_set ?_ ?_ _ | with_reducible exact Nat.le_refl _ | omega | (simp only [World.size_alloc, World.size_setCell, World.size_drew] at *; omega) | (dsimp only; omega) | (simp; done) | (simp; omega))⟩
          · have h4 : r = 0 := by have := hr1H.out; rw [hx, hy, hxy, if_neg h64] at this; simpa using this
            subst h4
            go_enter Tryz.func47, Tryz.ntmps47
            go_wp2_with (first
              | (go_at_call 64; refine (hH.out.asked hval).mono ?_; rintro e w1 ⟨rfl, hb1⟩; simp only [codeB_true]; have cq1 := (hb1.cell (p := ⟨pa, 0, none⟩) lq).trans cq; have lq1 : pa < w1.heap.size := Nat.lt_of_lt_of_le lq hb1.size)
              | (go_at_call 81; refine (l00In_any _ _ _ _).mono ?_; rintro e _ ⟨rfl, rfl⟩))
            go_ret
            exact ⟨rfl, by repeat (first | with_reducible exact bl_refl _ | with_reducible assumption | with_reducible refine bl_al ?_ _ | with_reducible refine bl_dr ?_ | with_reducible refine bl_tr ?_ (by assumption) | with_reducible refine bl_set ?_ ?_ _ | with_reducible exact Nat.le_refl _ | omega | (simp only [World.size_alloc, World.size_setCell, World.size_drew] at *; omega) | (dsimp only; omega) | (simp; done) | (simp; omega))⟩
        · have h2 : r = 2 := by have := hr1H.out; rw [hx, hy, hxy] at this; simpa using this
          subst h2
          go_enter Tryz.func47, Tryz.ntmps47
          go_wp2_with (first
            | (go_at_call 64; refine (hH.out.asked hval).mono ?_; rintro e w1 ⟨rfl, hb1⟩; simp only [codeB_true]; have cq1 := (hb1.cell (p := ⟨pa, 0, none⟩) lq).trans cq; have lq1 : pa < w1.heap.size := Nat.lt_of_lt_of_le lq hb1.size)
            | (go_at_call 81; refine (l00In_any _ _ _ _).mono ?_; rintro e _ ⟨rfl, rfl⟩))
          go_ret
          exact ⟨rfl, by repeat (first | with_reducible exact bl_refl _ | with_reducible assumption | with_reducible refine bl_al ?_ _ | with_reducible refine bl_dr ?_ | with_reducible refine bl_tr ?_ (by assumption) | with_reducible refine bl_set ?_ ?_ _ | with_reducible exact Nat.le_refl _ | omega | (simp only [World.size_alloc, World.size_setCell, World.size_drew] at *; omega) | (dsimp only; omega) | (simp; done) | (simp; omega))⟩
end Go.Proofs.YtbpmamjphdaggaaGreat
/- Plain facts: the weakest cut: the order of cuts, the best one so far. -/

namespace Go.Proofs.YtbpmamjphdaggaaGreat
set_option linter.unusedSimpArgs false
set_option linter.unusedVariables false
/-- which of two lists of a length comes first -/
def lexB : List Int → List Int → Bool
  | a :: s, b :: p => if a = b then lexB s p else decide (a < b)
  | _, _ => false
theorem lexB_at : ∀ {l1 l2 : List Int} {k : Nat} {a b : Int}, (∀ j, j < k → l1[j]? = l2[j]?) → l1[k]? = some a → l2[k]? = some b → a ≠ b → lexB l1 l2 = decide (a < b)
  | [], _, _, _, _, _, ha, _, _ => by simp at ha
  | _ :: _, [], _, _, _, _, _, hb, _ => by simp at hb
  | x :: s, y :: p, 0, a, b, _, ha, hb, hne => by
    simp at ha hb
    subst ha; subst hb
    simp [lexB, hne]
  | x :: s, y :: p, k + 1, a, b, h, ha, hb, hne => by
    have h0 := h 0 (by omega)
    simp at h0
    subst h0
    simp only [lexB, if_true]
    refine lexB_at (k := k) (fun j hj => ?_) (by simpa using ha) (by simpa using hb) hne
    have := h (j + 1) (by omega)
    simpa using this
theorem lexB_refl : ∀ l : List Int, lexB l l = false
  | [] => rfl
  | a :: s => by simp [lexB, lexB_refl s]
theorem lexB_end {l1 l2 : List Int} {n : Nat} (h1 : l1.length = n) (h2 : l2.length = n) (h : ∀ j, j < n → l1[j]? = l2[j]?) : l1 = l2 := by
  apply List.ext_getElem?
  intro j
  by_cases hj : j < n
  · exact h j hj
  · rw [List.getElem?_eq_none (by omega), List.getElem?_eq_none (by omega)]
/-- a cut comes before another one -/
def beforeI (v : Int) (s : List Int) (b : Int) (p : List Int) : Bool := decide (v < b) || (decide (v = b) && (decide (s.length < p.length) || (decide (s.length = p.length) && lexB s p)))
theorem beforeI_ne {v b : Int} {s p : List Int} (h : v ≠ b) : beforeI v s b p = decide (v < b) := by simp [beforeI, h]
theorem beforeI_len {v : Int} {s p : List Int} (h : s.length ≠ p.length) : beforeI v s v p = decide (s.length < p.length) := by simp [beforeI, h]
theorem beforeI_lex {v : Int} {s p : List Int} (h : s.length = p.length) : beforeI v s v p = lexB s p := by simp [beforeI, h]
def before (v : Nat) (s : List Nat) (b : Int) (p : List Nat) : Bool := beforeI (v : Int) (intsI s) b (intsI p)
theorem before_lt {v : Nat} {s p : List Nat} {b : Int} (h : before v s b p = true) : (v : Int) ≤ b := by
  simp only [before, beforeI, Bool.or_eq_true, decide_eq_true_eq, Bool.and_eq_true] at h
  omega
theorem before_ge {v : Nat} {s p : List Nat} {b : Int} (h : before v s b p = false) : b ≤ (v : Int) := by
  simp [before, beforeI] at h
  omega
noncomputable def sideL (n : Nat) (bs : List Bd) (y : Nat) : List Nat := leadL n (edgeB bs (iterF n bs 0 y (flowV n bs 0 y))) y n
/-- the best of the cuts between 0 and the first k others -/
noncomputable def weakK (n : Nat) (bs : List Bd) : Nat → Int × List Nat
  | 0 => (-1, [])
  | k + 1 => if (decide ((weakK n bs k).1 < 0) || before (flowV n bs 0 (k + 1)) (sideL n bs (k + 1)) (weakK n bs k).1 (weakK n bs k).2) = true then ((flowV n bs 0 (k + 1) : Int), sideL n bs (k + 1)) else weakK n bs k
theorem weakK_take {n : Nat} {bs : List Bd} {k : Nat} {b : Int} {p : List Nat} (h : weakK n bs k = (b, p)) (hb : (decide (b < 0) || before (flowV n bs 0 (k + 1)) (sideL n bs (k + 1)) b p) = true) : weakK n bs (k + 1) = ((flowV n bs 0 (k + 1) : Int), sideL n bs (k + 1)) := by
  simp only [weakK, h]
  exact if_pos hb
theorem weakK_keep {n : Nat} {bs : List Bd} {k : Nat} {b : Int} {p : List Nat} (h : weakK n bs k = (b, p)) (hb : (decide (b < 0) || before (flowV n bs 0 (k + 1)) (sideL n bs (k + 1)) b p) = false) : weakK n bs (k + 1) = (b, p) := by
  simp only [weakK, h]
  exact if_neg (by rw [hb]; decide)
theorem weakY_take {n : Nat} {bs : List Bd} {y fv : Nat} {b : Int} {sd p : List Nat} (hy : 1 ≤ y) (h : weakK n bs (y - 1) = (b, p)) (hf : flowV n bs 0 y = fv) (hs : sideL n bs y = sd) (hb : (decide (b < 0) || before fv sd b p) = true) : weakK n bs (y + 1 - 1) = ((fv : Int), sd) := by
  obtain ⟨k, rfl⟩ : ∃ k, y = k + 1 := ⟨y - 1, by omega⟩
  subst hf; subst hs
  exact weakK_take h hb
theorem weakY_keep {n : Nat} {bs : List Bd} {y fv : Nat} {b : Int} {sd p : List Nat} (hy : 1 ≤ y) (h : weakK n bs (y - 1) = (b, p)) (hf : flowV n bs 0 y = fv) (hs : sideL n bs y = sd) (hb : (decide (b < 0) || before fv sd b p) = false) : weakK n bs (y + 1 - 1) = (b, p) := by
  obtain ⟨k, rfl⟩ : ∃ k, y = k + 1 := ⟨y - 1, by omega⟩
  subst hf; subst hs
  exact weakK_keep h hb
theorem weakK_one (n : Nat) (bs : List Bd) : weakK n bs 1 = ((flowV n bs 0 1 : Int), sideL n bs 1) := weakK_take (k := 0) rfl (by simp)
theorem weakK_nat (n : Nat) (bs : List Bd) : ∀ k, ∃ (b : Nat) (p : List Nat), weakK n bs (k + 1) = ((b : Int), p) ∧ p.length ≤ n
  | 0 => ⟨_, _, weakK_one n bs, leadL_len _ _ _ _⟩
  | k + 1 => by
    obtain ⟨b, p, h, hp⟩ := weakK_nat n bs k
    cases hb : (decide ((b : Int) < 0) || before (flowV n bs 0 (k + 1 + 1)) (sideL n bs (k + 1 + 1)) (b : Int) p)
    · exact ⟨b, p, weakK_keep h hb, hp⟩
    · exact ⟨_, _, weakK_take h hb, leadL_len _ _ _ _⟩
theorem weakK_len (n : Nat) (bs : List Bd) (k : Nat) : (weakK n bs k).2.length ≤ n := by
  cases k with
  | zero => simp [weakK]
  | succ k => obtain ⟨b, p, h, hp⟩ := weakK_nat n bs k; rw [h]; exact hp
/-- the best one is as weak as the weakest -/
theorem weakK_least (n : Nat) (bs : List Bd) (t : Nat) : ∀ k, ((t : Int) ≤ (weakK n bs (k + 1)).1 ↔ ∀ y, y < k + 1 → t ≤ flowV n bs 0 (y + 1))
  | 0 => by
    rw [weakK_one]
    constructor
    · intro h y hy
      obtain rfl : y = 0 := by omega
      exact Int.ofNat_le.1 h
    · intro h
      exact Int.ofNat_le.2 (h 0 (by omega))
  | k + 1 => by
    have ih := weakK_least n bs t k
    obtain ⟨b, p, h, hp⟩ := weakK_nat n bs k
    rw [h] at ih
    have hs : (∀ y, y < k + 1 + 1 → t ≤ flowV n bs 0 (y + 1)) ↔ (∀ y, y < k + 1 → t ≤ flowV n bs 0 (y + 1)) ∧ t ≤ flowV n bs 0 (k + 1 + 1) := by
      constructor
      · intro h; exact ⟨fun y hy => h y (by omega), h (k + 1) (by omega)⟩
      · intro h y hy
        rcases Nat.lt_succ_iff_lt_or_eq.1 hy with h1 | rfl
        · exact h.1 y h1
        · exact h.2
    rw [hs, ← ih]
    have ht : (t : Int) ≤ (b : Int) ↔ t ≤ b := Int.ofNat_le
    cases hb : (decide ((b : Int) < 0) || before (flowV n bs 0 (k + 1 + 1)) (sideL n bs (k + 1 + 1)) (b : Int) p)
    · rw [weakK_keep h hb]
      simp only [Bool.or_eq_false_iff] at hb
      have := before_ge hb.2
      dsimp only
      omega
    · rw [weakK_take h hb]
      dsimp only
      simp only [Bool.or_eq_true, decide_eq_true_eq] at hb
      have : (flowV n bs 0 (k + 1 + 1) : Int) ≤ b := by
        rcases hb with hb | hb
        · omega
        · exact before_lt hb
      omega
/-- the state before round y -/
theorem weakY_cases (n : Nat) (bs : List Bd) {y : Nat} (hy : 1 ≤ y) : (y = 1 ∧ weakK n bs (y - 1) = (-1, [])) ∨ ∃ (b : Nat) (p : List Nat), weakK n bs (y - 1) = ((b : Int), p) ∧ p.length ≤ n := by
  by_cases h1 : y = 1
  · subst h1; exact .inl ⟨rfl, rfl⟩
  · obtain ⟨b, p, h, hp⟩ := weakK_nat n bs (y - 2)
    rw [show y - 2 + 1 = y - 1 by omega] at h
    exact .inr ⟨b, p, h, hp⟩
/-- the weakest cut of a graph -/
noncomputable def weakR (n : Nat) (bs : List Bd) : Int × List Nat := weakK n bs (n - 1)
end Go.Proofs.YtbpmamjphdaggaaGreat
/- Walks: the reference's weakest cut. -/




namespace Go.Proofs.YtbpmamjphdaggaaGreat
open Go.RowKit Go.Shelf
set_option linter.unusedSimpArgs false
set_option linter.unusedVariables false
attribute [local go_sem] BelowBy.cell BelowBy.cell_drew stillUpon givesUpon BelowBy.cell_drew2 BelowBy.cell_drew3

set_option maxHeartbeats 1000000 in
theorem l07Before_any (v b : Int) (A B : Option Addr) (n m c d : Nat) (l1 l2 : List Int) (w : World) (h1 : RdSl 1 RInt w A n l1) (h2 : RdSl 1 RInt w B m l2) (hn : n ≤ 1073741824) (hm : m ≤ 1073741824) {r : Bool} (hr : beforeI v l1 b l2 = r) :
    Calls Tryz.prog 111 #[.int .i64 v, .slice A n c, .int .i64 b, .slice B m d] w fun e w' => e = .returned (.bool r) ∧ Below w.heap.size w w' := by
  
  have hl1 := h1.len
  have hl2 := h2.len
  have hrH := Lib.hid hr
  clear hr
  by_cases hv : v = b
  · subst hv
    by_cases hl : n = m
    · subst hl
      go_enter Tryz.func111, Tryz.ntmps111
      go_wp2
      go_loopg [9] n (fun g i wr => ∃ k : Nat, k + g = n ∧ i = .int .i64 (k : Int) ∧ Hid (∀ j, j < k → l1[j]? = l2[j]?) ∧ Below w.heap.size w wr)
      case atStart => exact ⟨0, by omega, rfl, Lib.hid (fun j hj => by omega), bl_refl _⟩
      case round =>
        obtain ⟨k, hk, rfl, hsame, hbw⟩ := hrel
        have r1 := h1.below RInt.stable hbw
        have r2 := h2.below RInt.stable hbw
        by_cases hlt : k < n
        · obtain ⟨bb, o, rfl, hb, hc⟩ := r1.ptr (by omega)
          obtain ⟨b2, o2, rfl, hb2, hc2⟩ := r2.ptr (by omega)
          obtain ⟨e, he⟩ := h1.get hlt
          obtain ⟨e2, he2⟩ := h2.get hlt
          have c1 := hc k e he
          have c2 := hc2 k e2 he2
          unfold RInt at c1 c2
          simp only [Nat.mul_one] at c1 c2
          by_cases hee : e = e2
          · subst hee
            have hs2 := Lib.hid (show ∀ j, j < k + 1 → l1[j]? = l2[j]? from fun j hj => by
              rcases Nat.lt_succ_iff_lt_or_eq.1 hj with hj | rfl
              · exact hsame.out j hj
              · rw [he, he2])
            clear hc hc2 he he2 r1 r2
            go_wp2
            refine wp_region_ord [(0, .q), (1, .q), (2, .q), (3, .q), (4, .q), (5, .q), (6, .q), (7, .q), (8, .q)] (by kernel_rfl) (by kernel_rfl) ?_
            simp only [pick, List.filterMap_cons, List.filterMap_nil, List.getElem?_toArray, List.getElem?_cons_zero, List.getElem?_cons_succ, Option.map_some]
            repeat (first
              | ((with_reducible refine wpD_p (fun K hK => ?_)); go_simp; refine hK _ ?_; clear hK K)
              | ((with_reducible refine wpD_q (fun K hK => ?_)); go_simp; (first | refine hK _ ?_ | (go_bits; refine hK _ ?_) | (go_bits; go_simp; refine hK _ ?_)); clear hK K)
              | ((with_reducible refine wpD_g (fun K hK => ?_)); go_simp; refine hK _ _ ?_; clear hK K)
              | ((with_reducible refine wpD_g (fun K hK => ?_)); go_simp; refine ⟨Grew.of_alloc _, hK _ _ ?_⟩; clear hK K))
            with_reducible refine wpD_nil ?_
            go_wp2
            go_roundg (n - (k + 1))
            case measure => omega
            case rel => exact ⟨k + 1, by omega, by go_num, hs2, (by repeat (first | with_reducible exact bl_refl _ | with_reducible assumption | with_reducible refine bl_al ?_ _ | with_reducible refine bl_dr ?_ | with_reducible refine bl_tr ?_ (by assumption) | with_reducible refine bl_set ?_ ?_ _ | with_reducible exact Nat.le_refl _ | omega | (simp only [World.size_alloc, World.size_setCell, World.size_drew] at *; omega) | (dsimp only; omega) | (simp; done) | (simp; omega)))⟩
          · have hq := lexB_at hsame.out he he2 hee
            have hrr := Lib.hid (show decide (e < e2) = r by rw [← hrH.out, beforeI_lex (by omega), hq])
            have hed : (e == e2) = false := by simpa using hee
            clear hc hc2 he he2 r1 r2 hq
            go_wp2
            refine wp_region_ord [(0, .q), (1, .q), (2, .q), (3, .q), (4, .q), (5, .q), (6, .q), (7, .q), (8, .q)] (by kernel_rfl) (by kernel_rfl) ?_
            simp only [pick, List.filterMap_cons, List.filterMap_nil, List.getElem?_toArray, List.getElem?_cons_zero, List.getElem?_cons_succ, Option.map_some]
            repeat (first
              | ((with_reducible refine wpD_p (fun K hK => ?_)); go_simp; refine hK _ ?_; clear hK K)
              | ((with_reducible refine wpD_q (fun K hK => ?_)); go_simp; (first | refine hK _ ?_ | (go_bits; refine hK _ ?_) | (go_bits; go_simp; refine hK _ ?_)); clear hK K)
              | ((with_reducible refine wpD_g (fun K hK => ?_)); go_simp; refine hK _ _ ?_; clear hK K)
              | ((with_reducible refine wpD_g (fun K hK => ?_)); go_simp; refine ⟨Grew.of_alloc _, hK _ _ ?_⟩; clear hK K))
            with_reducible refine wpD_nil ?_
            go_wp2
            refine wp_region_ord [(0, .q), (1, .q), (2, .q), (3, .q), (4, .q), (5, .q), (6, .q), (7, .q), (8, .q), (9, .q)] (by kernel_rfl) (by kernel_rfl) ?_
            simp only [pick, List.filterMap_cons, List.filterMap_nil, List.getElem?_toArray, List.getElem?_cons_zero, List.getElem?_cons_succ, Option.map_some]
            repeat (first
              | ((with_reducible refine wpD_p (fun K hK => ?_)); go_simp; refine hK _ ?_; clear hK K)
              | ((with_reducible refine wpD_q (fun K hK => ?_)); go_simp; (first | refine hK _ ?_ | (go_bits; refine hK _ ?_) | (go_bits; go_simp; refine hK _ ?_)); clear hK K)
              | ((with_reducible refine wpD_g (fun K hK => ?_)); go_simp; refine hK _ _ ?_; clear hK K)
              | ((with_reducible refine wpD_g (fun K hK => ?_)); go_simp; refine ⟨Grew.of_alloc _, hK _ _ ?_⟩; clear hK K))
            with_reducible refine wpD_nil ?_
            go_wp2
            go_ret
            exact ⟨ret_bool hrr.out, by repeat (first | with_reducible exact bl_refl _ | with_reducible assumption | with_reducible refine bl_al ?_ _ | with_reducible refine bl_dr ?_ | with_reducible refine bl_tr ?_ (by assumption) | with_reducible refine bl_set ?_ ?_ _ | with_reducible exact Nat.le_refl _ | omega | (simp only [World.size_alloc, World.size_setCell, World.size_drew] at *; omega) | (dsimp only; omega) | (simp; done) | (simp; omega))⟩
        · obtain rfl : k = n := by omega
          have hll := lexB_end hl1 hl2 hsame.out
          have hrr := Lib.hid (show false = r by rw [← hrH.out, hll, beforeI_lex rfl, lexB_refl])
          clear hll
          go_wp2
          go_ret
          exact ⟨ret_bool hrr.out, by repeat (first | with_reducible exact bl_refl _ | with_reducible assumption | with_reducible refine bl_al ?_ _ | with_reducible refine bl_dr ?_ | with_reducible refine bl_tr ?_ (by assumption) | with_reducible refine bl_set ?_ ?_ _ | with_reducible exact Nat.le_refl _ | omega | (simp only [World.size_alloc, World.size_setCell, World.size_drew] at *; omega) | (dsimp only; omega) | (simp; done) | (simp; omega))⟩
    · have hq := Lib.hid (beforeI_len (v := v) (s := l1) (p := l2) (by omega))
      have hld : ((n : Int) == (m : Int)) = false := by simp; omega
      go_enter Tryz.func111, Tryz.ntmps111
      go_wp2
      go_ret
      exact ⟨ret_bool (by rw [← hrH.out, hq.out, hl1, hl2]), by repeat (first | with_reducible exact bl_refl _ | with_reducible assumption | with_reducible refine bl_al ?_ _ | with_reducible refine bl_dr ?_ | with_reducible refine bl_tr ?_ (by assumption) | with_reducible refine bl_set ?_ ?_ _ | with_reducible exact Nat.le_refl _ | omega | (simp only [World.size_alloc, World.size_setCell, World.size_drew] at *; omega) | (dsimp only; omega) | (simp; done) | (simp; omega))⟩
  · have hq := Lib.hid (beforeI_ne (s := l1) (p := l2) hv)
    have hvd : (v == b) = false := by simpa using hv
    go_enter Tryz.func111, Tryz.ntmps111
    go_wp2
    go_ret
    exact ⟨ret_bool (by rw [← hrH.out, hq.out]), by repeat (first | with_reducible exact bl_refl _ | with_reducible assumption | with_reducible refine bl_al ?_ _ | with_reducible refine bl_dr ?_ | with_reducible refine bl_tr ?_ (by assumption) | with_reducible refine bl_set ?_ ?_ _ | with_reducible exact Nat.le_refl _ | omega | (simp only [World.size_alloc, World.size_setCell, World.size_drew] at *; omega) | (dsimp only; omega) | (simp; done) | (simp; omega))⟩
def WeakRes (w : World) (n : Nat) (bs : List Bd) (e : Ending) (w' : World) : Prop := ∃ v, e = .returned (.tuple #[.int .i64 (weakR n bs).1, v]) ∧
  w'.ownsRow w.heap.size 2 1 v (intsI (weakR n bs).2).length ((intsI (weakR n bs).2).map (Value.int .i64)) ∧ Below w.heap.size w w'
theorem l07Flow0_any (n y : Nat) (B : Option Addr) (m c : Nat) (bs : List Bd) (w : World) (hB : RdSl 3 RBd w B m bs) (hb : BondsOk n bs) (hy : y < n) (hy0 : 0 < y) (hn : n ≤ 100000) (hm : m ≤ 100000) :
    Calls Tryz.prog 48 #[.int .i64 (n : Int), .slice B m c, .int .i64 0, .int .i64 (y : Int)] w (FlowRes w n B m c bs 0 y) := l07Flow_any n 0 y B m c bs w hB hb (by omega) hy (by omega) hn hm
set_option maxRecDepth 100000 in
set_option maxHeartbeats 2000000 in
theorem l07Weakest_any (n : Nat) (B : Option Addr) (m c : Nat) (bs : List Bd) (w : World) (hB : RdSl 3 RBd w B m bs) (hb : BondsOk n bs) (hn1 : 1 ≤ n) (hn : n ≤ 100000) (hm : m ≤ 100000) :
    Calls Tryz.prog 65 #[.int .i64 (n : Int), .slice B m c] w (WeakRes w n bs) := by
  have hBH := Lib.hid hB
  have hbH := Lib.hid hb
  clear hB hb
  go_enter Tryz.func65, Tryz.ntmps65
  go_wp2
  go_loopg [8, 6, 7] (n - 1) (fun gk yv bv v wr => ∃ (y : Nat) (b : Int) (p : List Nat), y + gk = n ∧ 1 ≤ y ∧ yv = .int .i64 (y : Int) ∧ bv = .int .i64 b ∧ Hid (weakK n bs (y - 1) = (b, p)) ∧ Hid (wr.ownsRow w.heap.size 2 1 v (intsI p).length ((intsI p).map (Value.int .i64))) ∧ Hid (Below w.heap.size w wr))
  case atStart => exact ⟨1, -1, [], by omega, by omega, rfl, rfl, Lib.hid rfl, Lib.hid (by have := World.ownsRow_lit (base := w.heap.size) (e := 2) (size := 1) w #[] 0 (Nat.le_refl _) (by decide) rfl; simpa [intsI] using this), Lib.hid (bl_al (bl_refl _) _)⟩
  case round =>
    obtain ⟨y, b, p, hy, hy1, rfl, rfl, hW, hrow, hbw⟩ := hrel
    have hsz := hbw.out.size
    obtain ⟨A1, c1, rfl, hrd⟩ := rdI_of hrow.out
    have hrdH := Lib.hid hrd
    clear hrd
    by_cases hyn : y < n
    · obtain ⟨fv, hfv⟩ : ∃ fv, flowV n bs 0 y = fv := ⟨_, rfl⟩
      obtain ⟨sd, hsd⟩ : ∃ sd, sideL n bs y = sd := ⟨_, rfl⟩
      have hfvH := Lib.hid hfv
      have hsdH := Lib.hid hsd
      have hsl : sd.length ≤ n := by rw [← hsd]; exact leadL_len _ _ _ _
      have hB1 := Lib.hid (hBH.out.below RBd.stable hbw.out)
      clear hfv hsd
      obtain ⟨r, hrE⟩ : ∃ r, (decide (b < 0) || before fv sd b p) = r := ⟨_, rfl⟩
      have hrH := Lib.hid hrE
      clear hrE
      rcases weakY_cases n bs hy1 with ⟨rfl, h0⟩ | ⟨bn, p', h0, hpl⟩
      · rw [hW.out] at h0
        injection h0 with h1 h2
        subst h1; subst h2
        go_wp2_with (first
          | (go_at_call 48; refine (l07Flow0_any n 1 B m c bs _ hB1.out hbH.out hyn (by omega) hn hm).mono ?_; rintro e w1 ⟨q, gF, vA, uA, rfl, hS⟩; rw [hfvH.out]; have hSH := Lib.hid hS; have hb1H := Lib.hid hS.bw; have hs1 := hS.bw.size; clear hS)
          | (go_at_call 62; refine (side_any q n gF B m c 1 bs _ vA uA _ hSH.out hB1.out hbH.out (iterF_inv hbH.out 0 1 _) hyn hn hm).mono ?_; rintro e w2 ⟨v2, rfl, hrow2, hb2⟩; rw [show leadL n (edgeB bs (iterF n bs 0 1 (flowV n bs 0 1))) 1 n = sd from hsdH.out] at hrow2; have hrow2H := Lib.hid hrow2; have hb2H := Lib.hid hb2; clear hrow2 hb2))
        go_roundg (n - 2)
        case measure => omega
        case rel =>
          refine ⟨2, fv, sd, by omega, by omega, by go_num, rfl, Lib.hid (weakY_take (y := 1) (by omega) hW.out hfvH.out hsdH.out (by simp)), Lib.hid ?_, Lib.hid (hbw.out.trans ((hb1H.out.trans (hb2H.out.mono hs1)).mono hsz))⟩
          rw [show (intsI sd).length = sd.length by simp [intsI]]
          exact ownsRow_base hrow2H.out (by omega)
      · rw [hW.out] at h0
        injection h0 with h1 h2
        subst h1; subst h2
        have hbn : ¬ ((bn : Int) < 0) := by omega
        have hbnd : decide ((bn : Int) < 0) = false := by simp
        have hbe : beforeI (fv : Int) (intsI sd) (bn : Int) (intsI p) = r := by
          have := hrH.out
          rw [hbnd, Bool.false_or] at this
          exact this
        have hbeH := Lib.hid hbe
        clear hbe
        obtain ⟨N, hN⟩ : ∃ N, (intsI p).length = N := ⟨_, rfl⟩
        have hNH := Lib.hid hN
        have hNl : N ≤ n := by rw [← hN]; simpa [intsI] using hpl
        rw [hN] at hrow hrdH ⊢
        clear hN
        cases r
        · go_wp2_with (first
            | (go_at_call 48; refine (l07Flow0_any n y B m c bs _ hB1.out hbH.out hyn (by omega) hn hm).mono ?_; rintro e w1 ⟨q, gF, vA, uA, rfl, hS⟩; rw [hfvH.out]; have hSH := Lib.hid hS; have hb1H := Lib.hid hS.bw; have hs1 := hS.bw.size; clear hS)
            | (go_at_call 62; refine (side_any q n gF B m c y bs _ vA uA _ hSH.out hB1.out hbH.out (iterF_inv hbH.out 0 y _) hyn hn hm).mono ?_; rintro e w2 ⟨v2, rfl, hrow2, hb2⟩; rw [show leadL n (edgeB bs (iterF n bs 0 y (flowV n bs 0 y))) y n = sd from hsdH.out] at hrow2; have hrow2' := hrow2; rw [show sd.length = (intsI sd).length by simp [intsI]] at hrow2'; obtain ⟨A2, c2, rfl, hrd2⟩ := rdI_of hrow2'; have hrow2H := Lib.hid hrow2'; have hrd2H := Lib.hid hrd2; have hb2H := Lib.hid hb2; have hbb := Lib.hid (hb1H.out.trans (hb2.mono hs1)); clear hrow2 hrow2' hrd2 hb2)
            | (go_at_call 111; refine (l07Before_any _ _ _ _ _ _ _ _ _ _ _ hrd2H.out (hrdH.out.below RInt.stable hbb.out) (by simp [intsI]; omega) (by omega) hbeH.out).mono ?_; rintro e w3 ⟨rfl, hb3⟩; have hb3H := Lib.hid hb3; have hs3 := hbb.out.size; clear hb3))
          go_roundg (n - (y + 1))
          case measure => omega
          case rel =>
            have hall := hbb.out.trans (hb3H.out.mono hs3)
            refine ⟨y + 1, bn, p, by omega, by omega, by go_num, rfl, Lib.hid (weakY_keep (by omega) hW.out hfvH.out hsdH.out hrH.out), Lib.hid ?_, Lib.hid (hbw.out.trans (hall.mono hsz))⟩
            rw [hNH.out]
            exact ownsRow_below hrow.out hall
        · go_wp2_with (first
            | (go_at_call 48; refine (l07Flow0_any n y B m c bs _ hB1.out hbH.out hyn (by omega) hn hm).mono ?_; rintro e w1 ⟨q, gF, vA, uA, rfl, hS⟩; rw [hfvH.out]; have hSH := Lib.hid hS; have hb1H := Lib.hid hS.bw; have hs1 := hS.bw.size; clear hS)
            | (go_at_call 62; refine (side_any q n gF B m c y bs _ vA uA _ hSH.out hB1.out hbH.out (iterF_inv hbH.out 0 y _) hyn hn hm).mono ?_; rintro e w2 ⟨v2, rfl, hrow2, hb2⟩; rw [show leadL n (edgeB bs (iterF n bs 0 y (flowV n bs 0 y))) y n = sd from hsdH.out] at hrow2; have hrow2' := hrow2; rw [show sd.length = (intsI sd).length by simp [intsI]] at hrow2'; obtain ⟨A2, c2, rfl, hrd2⟩ := rdI_of hrow2'; have hrow2H := Lib.hid hrow2'; have hrd2H := Lib.hid hrd2; have hb2H := Lib.hid hb2; have hbb := Lib.hid (hb1H.out.trans (hb2.mono hs1)); clear hrow2 hrow2' hrd2 hb2)
            | (go_at_call 111; refine (l07Before_any _ _ _ _ _ _ _ _ _ _ _ hrd2H.out (hrdH.out.below RInt.stable hbb.out) (by simp [intsI]; omega) (by omega) hbeH.out).mono ?_; rintro e w3 ⟨rfl, hb3⟩; have hb3H := Lib.hid hb3; have hs3 := hbb.out.size; have hs2 := hb2H.out.size; clear hb3))
          go_roundg (n - (y + 1))
          case measure => omega
          case rel =>
            have hall := hbb.out.trans (hb3H.out.mono hs3)
            refine ⟨y + 1, fv, sd, by omega, by omega, by go_num, rfl, Lib.hid (weakY_take (by omega) hW.out hfvH.out hsdH.out hrH.out), Lib.hid ?_, Lib.hid (hbw.out.trans (hall.mono hsz))⟩
            exact ownsRow_base (ownsRow_below hrow2H.out hb3H.out) (by omega)
    · obtain rfl : y = n := by omega
      go_wp2
      go_ret2
      refine ⟨.slice A1 (intsI p).length c1, ?_, ?_, hbw.out⟩
      · unfold weakR; rw [hW.out]; rfl
      · unfold weakR; rw [hW.out]; exact hrow.out
noncomputable def weakCutR (gs : List Gl) (ts : List Ti) (xs : List Pl) : Int × List Int × Int :=
  if validAsmB gs ts xs = false then (0, [], 1) else if xs.length < 2 then (0, [], 3) else if 64 < xs.length then (0, [], 4) else ((weakR xs.length (bondsL gs ts xs)).1, intsI (weakR xs.length (bondsL gs ts xs)).2, 0)
theorem weakCutR_no {gs : List Gl} {ts : List Ti} {xs : List Pl} (h : validAsmB gs ts xs = false) : (((0 : Int), ([] : List Int), (1 : Int)) : Int × List Int × Int) = weakCutR gs ts xs := by unfold weakCutR; rw [if_pos h]
theorem weakCutR_few {gs : List Gl} {ts : List Ti} {xs : List Pl} (h : validAsmB gs ts xs = true) (h2 : xs.length < 2) : (((0 : Int), ([] : List Int), (3 : Int)) : Int × List Int × Int) = weakCutR gs ts xs := by unfold weakCutR; rw [if_neg (by rw [h]; decide), if_pos h2]
theorem weakCutR_full {gs : List Gl} {ts : List Ti} {xs : List Pl} (h : validAsmB gs ts xs = true) (h2 : ¬ xs.length < 2) (h3 : 64 < xs.length) : (((0 : Int), ([] : List Int), (4 : Int)) : Int × List Int × Int) = weakCutR gs ts xs := by unfold weakCutR; rw [if_neg (by rw [h]; decide), if_neg h2, if_pos h3]
theorem weakCutR_yes {gs : List Gl} {ts : List Ti} {xs : List Pl} (h : validAsmB gs ts xs = true) (h2 : ¬ xs.length < 2) (h3 : ¬ 64 < xs.length) : (((weakR xs.length (bondsL gs ts xs)).1, intsI (weakR xs.length (bondsL gs ts xs)).2, (0 : Int)) : Int × List Int × Int) = weakCutR gs ts xs := by unfold weakCutR; rw [if_neg (by rw [h]; decide), if_neg h2, if_neg h3]
theorem weakCutR_len (gs : List Gl) (ts : List Ti) (xs : List Pl) : (weakCutR gs ts xs).2.1.length ≤ 1073741824 := by
  unfold weakCutR
  split
  · simp
  · split
    · simp
    · split
      · simp
      · have := weakK_len xs.length (bondsL gs ts xs) (xs.length - 1)
        simp only [intsI, List.length_map, weakR]
        omega
end Go.Proofs.YtbpmamjphdaggaaGreat
/- Walk: the reference's WeakestCut. -/

namespace Go.Proofs.YtbpmamjphdaggaaGreat
open Go.RowKit Go.Shelf
set_option linter.unusedSimpArgs false
set_option linter.unusedVariables false
attribute [local go_sem] BelowBy.cell BelowBy.cell_drew stillUpon givesUpon BelowBy.cell_drew2 BelowBy.cell_drew3

set_option maxRecDepth 100000 in
set_option maxHeartbeats 2000000 in
theorem sWeakestCut_any (G T A : Option Addr) (n cg m ct q ca : Nat) (gs : List Gl) (ts : List Ti) (xs : List Pl) (w : World) (h : SA w G n T m A q gs ts xs) :
    Calls Tryz.prog 26 #[.agg #[.slice G n cg, .slice T m ct], .agg #[.slice A q ca]] w (FluxRes w (weakCutR gs ts xs)) := by
  have hat := Lib.hid (h.box cg ct ca)
  have hlen := h.A.len
  have hq := h.q
  clear h
  cases hval : validAsmB gs ts xs
  · have hvH := Lib.hid hval
    clear hval
    go_enter Tryz.func26, Tryz.ntmps26
    go_wp2_with (go_at_call 64; refine (hat.out.asked hvH.out).mono ?_; rintro e w1 ⟨rfl, hb1⟩; simp only [codeB_false])
    refine bodyPost_ret (v := .tuple #[.int .i64 0, .slice none 0 0, .int .i64 1]) (by simp only [results, Tryz.results26]; go_simp) rfl ?_
    exact FluxRes.of (weakCutR_no hvH.out) (World.ownsRow_nil _ _ _ _) (by repeat (first | with_reducible exact bl_refl _ | with_reducible assumption | with_reducible refine bl_al ?_ _ | with_reducible refine bl_dr ?_ | with_reducible refine bl_tr ?_ (by assumption) | with_reducible refine bl_set ?_ ?_ _ | with_reducible exact Nat.le_refl _ | omega | (simp only [World.size_alloc, World.size_setCell, World.size_drew] at *; omega) | (dsimp only; omega) | (simp; done) | (simp; omega)))
  · have hvH := Lib.hid hval
    have hV := valid_of hval
    have hbl := bondsL_len hV
    clear hval
    by_cases h2 : q < 2
    · have h2H := Lib.hid h2
      have hi2 : (q : Int) < 2 := by omega
      go_enter Tryz.func26, Tryz.ntmps26
      go_wp2_with (go_at_call 64; refine (hat.out.asked hvH.out).mono ?_; rintro e w1 ⟨rfl, hb1⟩; simp only [codeB_true]; have ca1 := (hb1.cell (p := ⟨w.heap.size + 1, 0, none⟩) (by simp)).trans (show _ = some (Value.slice A q ca) by go_simp); have la1 : w.heap.size + 1 < w1.heap.size := (by have := hb1.size; simp at this; omega))
      refine bodyPost_ret (v := .tuple #[.int .i64 0, .slice none 0 0, .int .i64 3]) (by simp only [results, Tryz.results26]; go_simp) rfl ?_
      exact FluxRes.of (weakCutR_few hvH.out (by rw [hlen]; exact h2H.out)) (World.ownsRow_nil _ _ _ _) (by repeat (first | with_reducible exact bl_refl _ | with_reducible assumption | with_reducible refine bl_al ?_ _ | with_reducible refine bl_dr ?_ | with_reducible refine bl_tr ?_ (by assumption) | with_reducible refine bl_set ?_ ?_ _ | with_reducible exact Nat.le_refl _ | omega | (simp only [World.size_alloc, World.size_setCell, World.size_drew] at *; omega) | (dsimp only; omega) | (simp; done) | (simp; omega)))
    · by_cases h3 : 64 < q
      · have h2H := Lib.hid h2
        have h3H := Lib.hid h3
        have hi2 : ¬ (q : Int) < 2 := by omega
        have hi3 : (64 : Int) < (q : Int) := by omega
        go_enter Tryz.func26, Tryz.ntmps26
        go_wp2_with (go_at_call 64; refine (hat.out.asked hvH.out).mono ?_; rintro e w1 ⟨rfl, hb1⟩; simp only [codeB_true]; have ca1 := (hb1.cell (p := ⟨w.heap.size + 1, 0, none⟩) (by simp)).trans (show _ = some (Value.slice A q ca) by go_simp); have la1 : w.heap.size + 1 < w1.heap.size := (by have := hb1.size; simp at this; omega))
        refine bodyPost_ret (v := .tuple #[.int .i64 0, .slice none 0 0, .int .i64 4]) (by simp only [results, Tryz.results26]; go_simp) rfl ?_
        exact FluxRes.of (weakCutR_full hvH.out (by rw [hlen]; exact h2H.out) (by rw [hlen]; exact h3H.out)) (World.ownsRow_nil _ _ _ _) (by repeat (first | with_reducible exact bl_refl _ | with_reducible assumption | with_reducible refine bl_al ?_ _ | with_reducible refine bl_dr ?_ | with_reducible refine bl_tr ?_ (by assumption) | with_reducible refine bl_set ?_ ?_ _ | with_reducible exact Nat.le_refl _ | omega | (simp only [World.size_alloc, World.size_setCell, World.size_drew] at *; omega) | (dsimp only; omega) | (simp; done) | (simp; omega)))
      · have h2H := Lib.hid h2
        have h3H := Lib.hid h3
        have hi2 : ¬ (q : Int) < 2 := by omega
        have hi3 : ¬ (64 : Int) < (q : Int) := by omega
        have hq1 : 1 ≤ q := by omega
        have hbq := Lib.hid (show BondsOk q (bondsL gs ts xs) by rw [← hlen]; exact bondsOk hV)
        go_enter Tryz.func26, Tryz.ntmps26
        go_wp2_with (go_at_call 64; refine (hat.out.asked hvH.out).mono ?_; rintro e w1 ⟨rfl, hb1⟩; simp only [codeB_true]; have hat1 := Lib.hid (hat.out.below hb1); have ca1 := (hb1.cell (p := ⟨w.heap.size + 1, 0, none⟩) (by simp)).trans (show _ = some (Value.slice A q ca) by go_simp); have la1 : w.heap.size + 1 < w1.heap.size := (by have := hb1.size; simp at this; omega))
        refine wp_region_ord [(0, .q), (1, .q), (2, .q), (3, .g), (4, .g), (5, .q), (6, .q), (7, .q), (8, .q), (9, .q)] (by kernel_rfl) (by kernel_rfl) ?_
        simp only [pick, List.filterMap_cons, List.filterMap_nil, List.getElem?_toArray, List.getElem?_cons_zero, List.getElem?_cons_succ, Option.map_some]
        repeat (first | ((with_reducible refine wpD_p (fun K hK => ?_)); go_simp; refine hK _ ?_; clear hK K) | ((with_reducible refine wpD_q (fun K hK => ?_)); go_simp; (first | refine hK _ ?_ | (go_bits; refine hK _ ?_) | (go_bits; go_simp; refine hK _ ?_)); clear hK K))
        with_reducible refine wpD_g (fun K hK => ?_)
        go_simp
        refine ((hat1.out.below (by repeat (first | with_reducible exact bl_refl _ | with_reducible assumption | with_reducible refine bl_al ?_ _ | with_reducible refine bl_dr ?_ | with_reducible refine bl_tr ?_ (by assumption) | with_reducible refine bl_set ?_ ?_ _ | with_reducible exact Nat.le_refl _ | omega | (simp only [World.size_alloc, World.size_setCell, World.size_drew] at *; omega) | (dsimp only; omega) | (simp; done) | (simp; omega)))).bonds hV).mono ?_
        rintro e w2 ⟨v, rfl, hrow, hb2⟩
        obtain ⟨B, cb, rfl, hB⟩ := rd_of_row hrow
        refine ⟨_, rfl, hb2, hK _ _ ?_⟩
        clear hK K hrow
        have hBH := Lib.hid hB
        clear hB
        with_reducible refine wpD_g (fun K hK => ?_)
        go_simp
        refine (l07Weakest_any q B _ cb (bondsL gs ts xs) _ hBH.out hbq.out hq1 (by omega) (by omega)).mono ?_
        rintro e w3 ⟨v3, rfl, hrow3, hb3⟩
        refine ⟨_, rfl, hb3, hK _ _ ?_⟩
        have hrow3H := Lib.hid hrow3
        clear hK K hrow3
        repeat (first | ((with_reducible refine wpD_p (fun K hK => ?_)); go_simp; refine hK _ ?_; clear hK K) | ((with_reducible refine wpD_q (fun K hK => ?_)); go_simp; (first | refine hK _ ?_ | (go_bits; refine hK _ ?_) | (go_bits; go_simp; refine hK _ ?_)); clear hK K))
        with_reducible refine wpD_nil ?_
        go_wp2
        refine bodyPost_ret (v := .tuple #[.int .i64 (weakR q (bondsL gs ts xs)).1, v3, .int .i64 0]) (by simp only [results, Tryz.results26]; go_simp) rfl ?_
        have hbel : Below w.heap.size w w2 := by repeat (first | with_reducible exact bl_refl _ | with_reducible assumption | with_reducible refine bl_al ?_ _ | with_reducible refine bl_dr ?_ | with_reducible refine bl_tr ?_ (by assumption) | with_reducible refine bl_set ?_ ?_ _ | with_reducible exact Nat.le_refl _ | omega | (simp only [World.size_alloc, World.size_setCell, World.size_drew] at *; omega) | (dsimp only; omega) | (simp; done) | (simp; omega))
        refine FluxRes.of (by rw [← hlen]; exact weakCutR_yes hvH.out (by rw [hlen]; exact h2H.out) (by rw [hlen]; exact h3H.out)) ?_ (by repeat (first | with_reducible exact bl_refl _ | with_reducible assumption | with_reducible refine bl_al ?_ _ | with_reducible refine bl_dr ?_ | with_reducible refine bl_tr ?_ (by assumption) | with_reducible refine bl_set ?_ ?_ _ | with_reducible exact Nat.le_refl _ | omega | (simp only [World.size_alloc, World.size_setCell, World.size_drew] at *; omega) | (dsimp only; omega) | (simp; done) | (simp; omega)))
        rw [hlen]
        exact ownsRow_base hrow3H.out hbel.size
end Go.Proofs.YtbpmamjphdaggaaGreat
/- Walks: the program's weakest cut. -/


namespace Go.Proofs.YtbpmamjphdaggaaGreat
open Go.RowKit Go.Shelf
set_option linter.unusedSimpArgs false
set_option linter.unusedVariables false
attribute [local go_sem] BelowBy.cell BelowBy.cell_drew stillUpon givesUpon BelowBy.cell_drew2 BelowBy.cell_drew3

set_option maxHeartbeats 1000000 in
/-- lists of a length, the first of which comes first -/
theorem CompareI_any (A B : Option Addr) (n c d : Nat) (l1 l2 : List Int) (w : World) (h1 : RdSl 1 RInt w A n l1) (h2 : RdSl 1 RInt w B n l2) (hn : n ≤ 1073741824) {r : Bool} (hr : lexB l1 l2 = r) :
    Calls Tryz.prog 117 #[.slice A n c, .slice B n d] w fun e w' => (∃ x : Int, e = .returned (.int .i64 x) ∧ decide (x < 0) = r) ∧ Below w.heap.size w w' := by
  
  have hl1 := h1.len
  have hl2 := h2.len
  have hrH := Lib.hid hr
  clear hr
  go_enter Tryz.func117, Tryz.ntmps117
  go_wp2
  go_loopg [11] n (fun g i wr => ∃ k : Nat, k + g = n ∧ i = .int .i64 (k : Int) ∧ Hid (∀ j, j < k → l1[j]? = l2[j]?) ∧ Below w.heap.size w wr)
  case atStart => exact ⟨0, by omega, rfl, Lib.hid (fun j hj => by omega), bl_refl _⟩
  case round =>
    obtain ⟨k, hk, rfl, hsame, hbw⟩ := hrel
    have r1 := h1.below RInt.stable hbw
    have r2 := h2.below RInt.stable hbw
    by_cases hlt : k < n
    · obtain ⟨bb, o, rfl, hb, hc⟩ := r1.ptr (by omega)
      obtain ⟨b2, o2, rfl, hb2, hc2⟩ := r2.ptr (by omega)
      obtain ⟨e, he⟩ := h1.get hlt
      obtain ⟨e2, he2⟩ := h2.get hlt
      have c1 := hc k e he
      have c2 := hc2 k e2 he2
      unfold RInt at c1 c2
      simp only [Nat.mul_one] at c1 c2
      have hge : ¬ (n : Int) ≤ (k : Int) := by omega
      by_cases hee : e = e2
      · subst hee
        have hs2 := Lib.hid (show ∀ j, j < k + 1 → l1[j]? = l2[j]? from fun j hj => by
          rcases Nat.lt_succ_iff_lt_or_eq.1 hj with hj | rfl
          · exact hsame.out j hj
          · rw [he, he2])
        have hcm : cmpI e e = 0 := by simp [cmpI]
        clear hc hc2 he he2 r1 r2
        go_wp2_with (go_at_call 151; refine (Compare_any e e _).mono ?_; rw [hcm]; rintro e' w' ⟨rfl, rfl⟩)
        go_roundg (n - (k + 1))
        case measure => omega
        case rel => exact ⟨k + 1, by omega, by go_num, hs2, (by repeat (first | with_reducible exact bl_refl _ | with_reducible assumption | with_reducible refine bl_al ?_ _ | with_reducible refine bl_dr ?_ | with_reducible refine bl_tr ?_ (by assumption) | with_reducible refine bl_set ?_ ?_ _ | with_reducible exact Nat.le_refl _ | omega | (simp only [World.size_alloc, World.size_setCell, World.size_drew] at *; omega) | (dsimp only; omega) | (simp; done) | (simp; omega)))⟩
      · have hq := lexB_at hsame.out he he2 hee
        have hrr := Lib.hid (show decide (e < e2) = r by rw [← hrH.out, hq])
        obtain ⟨x, hx⟩ : ∃ x, cmpI e e2 = x := ⟨_, rfl⟩
        have hx0 : ¬ (x = 0) := by
          rw [← hx]; unfold cmpI
          split
          · omega
          · split
            · omega
            · omega
        have hxd : (x == 0) = false := by simpa using hx0
        have hxl := Lib.hid (show decide (x < 0) = decide (e < e2) by
          rw [← hx]; unfold cmpI
          apply decide_eq_decide.2
          split
          · omega
          · split
            · omega
            · omega)
        clear hc hc2 he he2 r1 r2 hq
        go_wp2_with (go_at_call 151; refine (Compare_any e e2 _).mono ?_; rw [hx]; rintro e' w' ⟨rfl, rfl⟩)
        go_ret
        exact ⟨⟨x, rfl, by rw [hxl.out, hrr.out]⟩, by repeat (first | with_reducible exact bl_refl _ | with_reducible assumption | with_reducible refine bl_al ?_ _ | with_reducible refine bl_dr ?_ | with_reducible refine bl_tr ?_ (by assumption) | with_reducible refine bl_set ?_ ?_ _ | with_reducible exact Nat.le_refl _ | omega | (simp only [World.size_alloc, World.size_setCell, World.size_drew] at *; omega) | (dsimp only; omega) | (simp; done) | (simp; omega))⟩
    · obtain rfl : k = n := by omega
      have hll := lexB_end hl1 hl2 hsame.out
      have hrr := Lib.hid (show false = r by rw [← hrH.out, hll, lexB_refl])
      clear hll
      go_wp2
      go_ret
      exact ⟨⟨0, rfl, by rw [← hrr.out]; decide⟩, by repeat (first | with_reducible exact bl_refl _ | with_reducible assumption | with_reducible refine bl_al ?_ _ | with_reducible refine bl_dr ?_ | with_reducible refine bl_tr ?_ (by assumption) | with_reducible refine bl_set ?_ ?_ _ | with_reducible exact Nat.le_refl _ | omega | (simp only [World.size_alloc, World.size_setCell, World.size_drew] at *; omega) | (dsimp only; omega) | (simp; done) | (simp; omega))⟩
theorem flowing0_any (n y : Nat) (B : Option Addr) (m c : Nat) (bs : List Bd) (w : World) (hB : RdSl 3 RBd w B m bs) (hb : BondsOk n bs) (hy : y < n) (hy0 : 0 < y) (hn : n ≤ 100000) (hm : m ≤ 100000) :
    Calls Tryz.prog 55 #[.int .i64 (n : Int), .slice B m c, .int .i64 0, .int .i64 (y : Int)] w (FlowingRes w n bs 0 y) := by
  have hl := hB.len
  subst hl
  exact flowing_any n 0 y B c bs w hB hb (by omega) hy (by omega) hn hm
theorem mono_keep {fv bn : Nat} {sd p : List Int} (h : (bn : Int) < (fv : Int)) : beforeI (fv : Int) sd (bn : Int) p = false := by
  rw [beforeI_ne (by omega)]; simp; omega
set_option maxRecDepth 100000 in
set_option maxHeartbeats 4000000 in
theorem weakest_any (n : Nat) (B : Option Addr) (m c : Nat) (bs : List Bd) (w : World) (hB : RdSl 3 RBd w B m bs) (hb : BondsOk n bs) (hn1 : 1 ≤ n) (hn : n ≤ 100000) (hm : m ≤ 100000) :
    Calls Tryz.prog 67 #[.int .i64 (n : Int), .slice B m c] w (WeakRes w n bs) := by
  have hBH := Lib.hid hB
  have hbH := Lib.hid hb
  clear hB hb
  go_enter Tryz.func67, Tryz.ntmps67
  go_wp2
  go_loopg [8, 6, 7] (n - 1) (fun gk yv bv v wr => ∃ (y : Nat) (b : Int) (p : List Nat), y + gk = n ∧ 1 ≤ y ∧ yv = .int .i64 (y : Int) ∧ bv = .int .i64 b ∧ Hid (weakK n bs (y - 1) = (b, p)) ∧ Hid (wr.ownsRow w.heap.size 2 1 v (intsI p).length ((intsI p).map (Value.int .i64))) ∧ Hid (Below w.heap.size w wr))
  case atStart => exact ⟨1, -1, [], by omega, by omega, rfl, rfl, Lib.hid rfl, Lib.hid (World.ownsRow_nil _ _ _ _), Lib.hid (bl_refl _)⟩
  case round =>
    obtain ⟨y, b, p, hy, hy1, rfl, rfl, hW, hrow, hbw⟩ := hrel
    have hsz := hbw.out.size
    obtain ⟨A1, c1, rfl, hrd⟩ := rdI_of hrow.out
    have hrdH := Lib.hid hrd
    clear hrd
    by_cases hyn : y < n
    · obtain ⟨fv, hfv⟩ : ∃ fv, flowV n bs 0 y = fv := ⟨_, rfl⟩
      obtain ⟨sd, hsd⟩ : ∃ sd, sideL n bs y = sd := ⟨_, rfl⟩
      have hfvH := Lib.hid hfv
      have hsdH := Lib.hid hsd
      have hsl : sd.length ≤ n := by rw [← hsd]; exact leadL_len _ _ _ _
      have hB1 := Lib.hid (hBH.out.below RBd.stable hbw.out)
      have hfe := Lib.hid (freeE_eq hbH.out (iterF_inv hbH.out 0 y (flowV n bs 0 y)))
      clear hfv hsd
      obtain ⟨r, hrE⟩ : ∃ r, (decide (b < 0) || before fv sd b p) = r := ⟨_, rfl⟩
      have hrH := Lib.hid hrE
      clear hrE
      rcases weakY_cases n bs hy1 with ⟨rfl, h0⟩ | ⟨bn, p', h0, hpl⟩
      · rw [hW.out] at h0
        injection h0 with h1 h2
        subst h1; subst h2
        have hf0 : ¬ ((fv : Int) < -1) := by omega
        go_wp2_with (first
          | (go_at_call 55; refine (flowing0_any n 1 B m c bs _ hB1.out hbH.out hyn (by omega) hn hm).mono ?_; rintro e w1 ⟨q, vR, vF, uR, uF, rfl, hN, hb1⟩; rw [hfvH.out]; have hNH := Lib.hid hN; have hb1H := Lib.hid hb1; have hs1 := hb1.size; clear hN hb1)
          | (go_at_call 63; refine (leadingTo_any _ q n 1 _ _ vR vF uR uF _ hNH.out hyn hn).mono ?_; rw [hfe.out]; rintro e w2 ⟨v2, rfl, hrow2, hb2⟩; rw [show leadL n (edgeB bs (iterF n bs 0 1 (flowV n bs 0 1))) 1 n = sd from hsdH.out] at hrow2; have hrow2H := Lib.hid hrow2; have hb2H := Lib.hid hb2; clear hrow2 hb2))
        go_roundg (n - 2)
        case measure => omega
        case rel =>
          refine ⟨2, fv, sd, by omega, by omega, by go_num, rfl, Lib.hid (weakY_take (y := 1) (by omega) hW.out hfvH.out hsdH.out (by simp)), Lib.hid ?_, Lib.hid (hbw.out.trans ((hb1H.out.trans (hb2H.out.mono hs1)).mono hsz))⟩
          rw [show (intsI sd).length = sd.length by simp [intsI]]
          exact ownsRow_base hrow2H.out (by omega)
      · rw [hW.out] at h0
        injection h0 with h1 h2
        subst h1; subst h2
        have hbn : ¬ ((bn : Int) < 0) := by omega
        have hbn0 : (0 : Int) ≤ (bn : Int) := by omega
        have hbnd : decide ((bn : Int) < 0) = false := by simp
        have hbe : beforeI (fv : Int) (intsI sd) (bn : Int) (intsI p) = r := by
          have := hrH.out
          rw [hbnd, Bool.false_or] at this
          exact this
        have hbeH := Lib.hid hbe
        clear hbe
        obtain ⟨N, hN⟩ : ∃ N, (intsI p).length = N := ⟨_, rfl⟩
        have hNH := Lib.hid hN
        have hNl : N ≤ n := by rw [← hN]; simpa [intsI] using hpl
        rw [hN] at hrow hrdH ⊢
        clear hN
        obtain ⟨M, hM⟩ : ∃ M, (intsI sd).length = M := ⟨_, rfl⟩
        have hMH := Lib.hid hM
        have hMl : M ≤ n := by rw [← hM]; simpa [intsI] using hsl
        have hMs : sd.length = M := by rw [← hM]; simp [intsI]
        have hMsH := Lib.hid hMs
        clear hM hMs hsl hpl
        by_cases hgt : (bn : Int) < (fv : Int)
        · have hr0 := Lib.hid (show (decide ((bn : Int) < 0) || before fv sd (bn : Int) p) = false by rw [hbnd, Bool.false_or]; exact mono_keep hgt)
          go_wp2_with (go_at_call 55; refine (flowing0_any n y B m c bs _ hB1.out hbH.out hyn (by omega) hn hm).mono ?_; rintro e w1 ⟨q, vR, vF, uR, uF, rfl, hN, hb1⟩; rw [hfvH.out]; have hb1H := Lib.hid hb1; have hs1 := hb1.size; clear hN hb1)
          go_roundg (n - (y + 1))
          case measure => omega
          case rel =>
            refine ⟨y + 1, bn, p, by omega, by omega, by go_num, rfl, Lib.hid (weakY_keep (by omega) hW.out hfvH.out hsdH.out hr0.out), Lib.hid ?_, Lib.hid (hbw.out.trans (hb1H.out.mono hsz))⟩
            rw [hNH.out]
            exact ownsRow_below hrow.out hb1H.out
        · have hgt' : ¬ ((fv : Int) > (bn : Int)) := hgt
          have take : ∀ (w1 w2 : World) (v2 : Value), r = true → Below wr.heap.size wr w1 → w2.ownsRow w1.heap.size 2 1 v2 M ((intsI sd).map (Value.int .i64)) → Below w1.heap.size w1 w2 →
              Hid (weakK n bs (y + 1 - 1) = ((fv : Int), sd)) ∧ Hid (w2.ownsRow w.heap.size 2 1 v2 (intsI sd).length ((intsI sd).map (Value.int .i64))) ∧ Hid (Below w.heap.size w w2) := fun w1 w2 v2 hr1 hb1 hrow2 hb2 => by
            have hs1 := hb1.size
            refine ⟨Lib.hid (weakY_take (by omega) hW.out hfvH.out hsdH.out (by rw [hrH.out, hr1])), Lib.hid ?_, Lib.hid (hbw.out.trans ((hb1.trans (hb2.mono hs1)).mono hsz))⟩
            rw [hMH.out]
            exact ownsRow_base hrow2 (by omega)
          have keep : ∀ (w1 w2 : World), r = false → Below wr.heap.size wr w1 → Below w1.heap.size w1 w2 →
              Hid (weakK n bs (y + 1 - 1) = ((bn : Int), p)) ∧ Hid (w2.ownsRow w.heap.size 2 1 (.slice A1 N c1) (intsI p).length ((intsI p).map (Value.int .i64))) ∧ Hid (Below w.heap.size w w2) := fun w1 w2 hr1 hb1 hb2 => by
            have hs1 := hb1.size
            have hall := hb1.trans (hb2.mono hs1)
            refine ⟨Lib.hid (weakY_keep (by omega) hW.out hfvH.out hsdH.out (by rw [hrH.out, hr1])), Lib.hid ?_, Lib.hid (hbw.out.trans (hall.mono hsz))⟩
            rw [hNH.out]
            exact ownsRow_below hrow.out hall
          have takeH := Lib.hid take
          have keepH := Lib.hid keep
          clear take keep
          by_cases hlt : (fv : Int) < (bn : Int)
          · have hr1 := Lib.hid (show r = true by rw [← hbeH.out, beforeI_ne (by omega)]; simpa using hlt)
            go_wp2_with (first
              | (go_at_call 55; refine (flowing0_any n y B m c bs _ hB1.out hbH.out hyn (by omega) hn hm).mono ?_; rintro e w1 ⟨q, vR, vF, uR, uF, rfl, hN, hb1⟩; rw [hfvH.out]; have hNH := Lib.hid hN; have hb1H := Lib.hid hb1; have hs1 := hb1.size; clear hN hb1)
              | (go_at_call 63; refine (leadingTo_any _ q n y _ _ vR vF uR uF _ hNH.out hyn hn).mono ?_; rw [hfe.out]; rintro e w2 ⟨v2, rfl, hrow2, hb2⟩; rw [show leadL n (edgeB bs (iterF n bs 0 y (flowV n bs 0 y))) y n = sd from hsdH.out, hMsH.out] at hrow2; have hrow2H := Lib.hid hrow2; have hb2H := Lib.hid hb2; clear hrow2 hb2))
            go_roundg (n - (y + 1))
            case measure => omega
            case rel => exact ⟨y + 1, fv, sd, by omega, by omega, by go_num, rfl, takeH.out _ _ _ hr1.out hb1H.out hrow2H.out hb2H.out⟩
          · obtain rfl : fv = bn := by omega
            by_cases hl1 : (M : Int) < (N : Int)
            · have hr1 := Lib.hid (show r = true by rw [← hbeH.out, beforeI_len (by rw [hMH.out, hNH.out]; omega), hMH.out, hNH.out]; simp; omega)
              go_wp2_with (first
                | (go_at_call 55; refine (flowing0_any n y B m c bs _ hB1.out hbH.out hyn (by omega) hn hm).mono ?_; rintro e w1 ⟨q, vR, vF, uR, uF, rfl, hN, hb1⟩; rw [hfvH.out]; have hNH := Lib.hid hN; have hb1H := Lib.hid hb1; have hs1 := hb1.size; clear hN hb1)
                | (go_at_call 63; refine (leadingTo_any _ q n y _ _ vR vF uR uF _ hNH.out hyn hn).mono ?_; rw [hfe.out]; rintro e w2 ⟨v2, rfl, hrow2, hb2⟩; rw [show leadL n (edgeB bs (iterF n bs 0 y (flowV n bs 0 y))) y n = sd from hsdH.out, hMsH.out] at hrow2; have hrow2H := Lib.hid hrow2; have hb2H := Lib.hid hb2; obtain ⟨A2, c2, rfl⟩ := ownsRow_form hrow2; clear hrow2 hb2))
              go_roundg (n - (y + 1))
              case measure => omega
              case rel => exact ⟨y + 1, fv, sd, by omega, by omega, by go_num, rfl, takeH.out _ _ _ hr1.out hb1H.out hrow2H.out hb2H.out⟩
            · by_cases hl2 : M = N
              · subst hl2
                have hlex : lexB (intsI sd) (intsI p) = r := by rw [← hbeH.out, beforeI_lex (by rw [hMH.out, hNH.out])]
                have hlexH := Lib.hid hlex
                clear hlex
                go_wp2_with (first
                  | (go_at_call 55; refine (flowing0_any n y B m c bs _ hB1.out hbH.out hyn (by omega) hn hm).mono ?_; rintro e w1 ⟨q, vR, vF, uR, uF, rfl, hN, hb1⟩; rw [hfvH.out]; have hNH := Lib.hid hN; have hb1H := Lib.hid hb1; have hs1 := hb1.size; clear hN hb1)
                  | (go_at_call 63; refine (leadingTo_any _ q n y _ _ vR vF uR uF _ hNH.out hyn hn).mono ?_; rw [hfe.out]; rintro e w2 ⟨v2, rfl, hrow2, hb2⟩; rw [show leadL n (edgeB bs (iterF n bs 0 y (flowV n bs 0 y))) y n = sd from hsdH.out, hMsH.out] at hrow2; have hrow2H := Lib.hid hrow2; have hb2H := Lib.hid hb2; obtain ⟨A2, c2, rfl⟩ := ownsRow_form hrow2; have hrd2H := Lib.hid (rdI hrow2 hMH.out.symm); clear hrow2 hb2)
                  | (go_at_call 117; refine (CompareI_any A2 A1 M c2 c1 (intsI sd) (intsI p) _ hrd2H.out (hrdH.out.below RInt.stable (hb1H.out.trans (hb2H.out.mono hs1))) (by omega) hlexH.out).mono ?_; rintro e w3 ⟨⟨x, rfl, hx⟩, hb3⟩; have hb3H := Lib.hid hb3; have hs2 := hb2H.out.size; clear hb3))
                · have hr1 := Lib.hid ‹r = true›
                  go_roundg (n - (y + 1))
                  case measure => omega
                  case rel => exact ⟨y + 1, fv, sd, by omega, by omega, by go_num, rfl, takeH.out _ _ _ hr1.out hb1H.out (ownsRow_below hrow2H.out hb3H.out) (hb2H.out.trans (hb3H.out.mono hs2))⟩
                · have hr1 := Lib.hid ‹r = false›
                  go_roundg (n - (y + 1))
                  case measure => omega
                  case rel => exact ⟨y + 1, fv, p, by omega, by omega, by go_num, rfl, keepH.out _ _ hr1.out hb1H.out (hb2H.out.trans (hb3H.out.mono hs2))⟩
              · have hr1 := Lib.hid (show r = false by rw [← hbeH.out, beforeI_len (by rw [hMH.out, hNH.out]; exact hl2), hMH.out, hNH.out]; simp; omega)
                have hl2d : ((M : Int) == (N : Int)) = false := by simp; omega
                go_wp2_with (first
                  | (go_at_call 55; refine (flowing0_any n y B m c bs _ hB1.out hbH.out hyn (by omega) hn hm).mono ?_; rintro e w1 ⟨q, vR, vF, uR, uF, rfl, hN, hb1⟩; rw [hfvH.out]; have hNH := Lib.hid hN; have hb1H := Lib.hid hb1; have hs1 := hb1.size; clear hN hb1)
                  | (go_at_call 63; refine (leadingTo_any _ q n y _ _ vR vF uR uF _ hNH.out hyn hn).mono ?_; rw [hfe.out]; rintro e w2 ⟨v2, rfl, hrow2, hb2⟩; rw [show leadL n (edgeB bs (iterF n bs 0 y (flowV n bs 0 y))) y n = sd from hsdH.out, hMsH.out] at hrow2; have hrow2H := Lib.hid hrow2; have hb2H := Lib.hid hb2; obtain ⟨A2, c2, rfl⟩ := ownsRow_form hrow2; clear hrow2 hb2))
                go_roundg (n - (y + 1))
                case measure => omega
                case rel => exact ⟨y + 1, fv, p, by omega, by omega, by go_num, rfl, keepH.out _ _ hr1.out hb1H.out hb2H.out⟩
    · obtain rfl : y = n := by omega
      go_wp2
      go_ret2
      refine ⟨.slice A1 (intsI p).length c1, ?_, ?_, hbw.out⟩
      · unfold weakR; rw [hW.out]; rfl
      · unfold weakR; rw [hW.out]; exact hrow.out
end Go.Proofs.YtbpmamjphdaggaaGreat
/- Walk: the program's WeakestCut. -/

namespace Go.Proofs.YtbpmamjphdaggaaGreat
open Go.RowKit Go.Shelf
set_option linter.unusedSimpArgs false
set_option linter.unusedVariables false
attribute [local go_sem] BelowBy.cell BelowBy.cell_drew stillUpon givesUpon BelowBy.cell_drew2 BelowBy.cell_drew3

set_option maxRecDepth 100000 in
set_option maxHeartbeats 2000000 in
theorem WeakestCut_any (G T A : Option Addr) (n cg m ct q ca : Nat) (gs : List Gl) (ts : List Ti) (xs : List Pl) (w : World) (h : SA w G n T m A q gs ts xs) :
    Calls Tryz.prog 27 #[.agg #[.slice G n cg, .slice T m ct], .agg #[.slice A q ca]] w (FluxRes w (weakCutR gs ts xs)) := by
  have hSA := Lib.hid h
  have hlen := h.A.len
  have hq := h.q
  clear h
  cases hval : validAsmB gs ts xs
  · have hvH := Lib.hid hval
    clear hval
    go_enter Tryz.func27, Tryz.ntmps27
    go_wp2_with fail
    refine ((hSA.out.below (by repeat (first | with_reducible exact bl_refl _ | with_reducible assumption | with_reducible refine bl_al ?_ _ | with_reducible refine bl_dr ?_ | with_reducible refine bl_tr ?_ (by assumption) | with_reducible refine bl_set ?_ ?_ _ | with_reducible exact Nat.le_refl _ | omega | (simp only [World.size_alloc, World.size_setCell, World.size_drew] at *; omega) | (dsimp only; omega) | (simp; done) | (simp; omega)))).valid hvH.out).mono ?_
    rintro e w1 ⟨rfl, hb1⟩
    go_wp2
    refine bodyPost_ret (v := .tuple #[.int .i64 0, .slice none 0 0, .int .i64 1]) (by simp only [results, Tryz.results27]; go_simp) rfl ?_
    exact FluxRes.of (weakCutR_no hvH.out) (World.ownsRow_nil _ _ _ _) (by repeat (first | with_reducible exact bl_refl _ | with_reducible assumption | with_reducible refine bl_al ?_ _ | with_reducible refine bl_dr ?_ | with_reducible refine bl_tr ?_ (by assumption) | with_reducible refine bl_set ?_ ?_ _ | with_reducible exact Nat.le_refl _ | omega | (simp only [World.size_alloc, World.size_setCell, World.size_drew] at *; omega) | (dsimp only; omega) | (simp; done) | (simp; omega)))
  · have hvH := Lib.hid hval
    have hV := valid_of hval
    have hbl := bondsL_len hV
    clear hval
    by_cases h2 : q < 2
    · have h2H := Lib.hid h2
      have hi2 : (q : Int) < 2 := by omega
      go_enter Tryz.func27, Tryz.ntmps27
      go_wp2_with fail
      refine ((hSA.out.below (by repeat (first | with_reducible exact bl_refl _ | with_reducible assumption | with_reducible refine bl_al ?_ _ | with_reducible refine bl_dr ?_ | with_reducible refine bl_tr ?_ (by assumption) | with_reducible refine bl_set ?_ ?_ _ | with_reducible exact Nat.le_refl _ | omega | (simp only [World.size_alloc, World.size_setCell, World.size_drew] at *; omega) | (dsimp only; omega) | (simp; done) | (simp; omega)))).valid hvH.out).mono ?_
      rintro e w1 ⟨rfl, hb1⟩
      have ca1 := (hb1.cell (p := ⟨w.heap.size + 1, 0, none⟩) (by simp)).trans (show _ = some (Value.slice A q ca) by go_simp)
      have la1 : w.heap.size + 1 < w1.heap.size := by have := hb1.size; simp at this; omega
      go_wp2
      refine bodyPost_ret (v := .tuple #[.int .i64 0, .slice none 0 0, .int .i64 3]) (by simp only [results, Tryz.results27]; go_simp) rfl ?_
      exact FluxRes.of (weakCutR_few hvH.out (by rw [hlen]; exact h2H.out)) (World.ownsRow_nil _ _ _ _) (by repeat (first | with_reducible exact bl_refl _ | with_reducible assumption | with_reducible refine bl_al ?_ _ | with_reducible refine bl_dr ?_ | with_reducible refine bl_tr ?_ (by assumption) | with_reducible refine bl_set ?_ ?_ _ | with_reducible exact Nat.le_refl _ | omega | (simp only [World.size_alloc, World.size_setCell, World.size_drew] at *; omega) | (dsimp only; omega) | (simp; done) | (simp; omega)))
    · by_cases h3 : 64 < q
      · have h2H := Lib.hid h2
        have h3H := Lib.hid h3
        have hi2 : ¬ (q : Int) < 2 := by omega
        have hi3 : (64 : Int) < (q : Int) := by omega
        go_enter Tryz.func27, Tryz.ntmps27
        go_wp2_with fail
        refine ((hSA.out.below (by repeat (first | with_reducible exact bl_refl _ | with_reducible assumption | with_reducible refine bl_al ?_ _ | with_reducible refine bl_dr ?_ | with_reducible refine bl_tr ?_ (by assumption) | with_reducible refine bl_set ?_ ?_ _ | with_reducible exact Nat.le_refl _ | omega | (simp only [World.size_alloc, World.size_setCell, World.size_drew] at *; omega) | (dsimp only; omega) | (simp; done) | (simp; omega)))).valid hvH.out).mono ?_
        rintro e w1 ⟨rfl, hb1⟩
        have ca1 := (hb1.cell (p := ⟨w.heap.size + 1, 0, none⟩) (by simp)).trans (show _ = some (Value.slice A q ca) by go_simp)
        have la1 : w.heap.size + 1 < w1.heap.size := by have := hb1.size; simp at this; omega
        go_wp2
        refine bodyPost_ret (v := .tuple #[.int .i64 0, .slice none 0 0, .int .i64 4]) (by simp only [results, Tryz.results27]; go_simp) rfl ?_
        exact FluxRes.of (weakCutR_full hvH.out (by rw [hlen]; exact h2H.out) (by rw [hlen]; exact h3H.out)) (World.ownsRow_nil _ _ _ _) (by repeat (first | with_reducible exact bl_refl _ | with_reducible assumption | with_reducible refine bl_al ?_ _ | with_reducible refine bl_dr ?_ | with_reducible refine bl_tr ?_ (by assumption) | with_reducible refine bl_set ?_ ?_ _ | with_reducible exact Nat.le_refl _ | omega | (simp only [World.size_alloc, World.size_setCell, World.size_drew] at *; omega) | (dsimp only; omega) | (simp; done) | (simp; omega)))
      · have h2H := Lib.hid h2
        have h3H := Lib.hid h3
        have hi2 : ¬ (q : Int) < 2 := by omega
        have hi3 : ¬ (64 : Int) < (q : Int) := by omega
        have hq1 : 1 ≤ q := by omega
        have hbq := Lib.hid (show BondsOk q (bondsL gs ts xs) by rw [← hlen]; exact bondsOk hV)
        go_enter Tryz.func27, Tryz.ntmps27
        go_wp2_with fail
        refine ((hSA.out.below (by repeat (first | with_reducible exact bl_refl _ | with_reducible assumption | with_reducible refine bl_al ?_ _ | with_reducible refine bl_dr ?_ | with_reducible refine bl_tr ?_ (by assumption) | with_reducible refine bl_set ?_ ?_ _ | with_reducible exact Nat.le_refl _ | omega | (simp only [World.size_alloc, World.size_setCell, World.size_drew] at *; omega) | (dsimp only; omega) | (simp; done) | (simp; omega)))).valid hvH.out).mono ?_
        rintro e w1 ⟨rfl, hb1⟩
        have ca1 := (hb1.cell (p := ⟨w.heap.size + 1, 0, none⟩) (by simp)).trans (show _ = some (Value.slice A q ca) by go_simp)
        have cg1 := (hb1.cell (p := ⟨w.heap.size, 0, none⟩) (by simp; omega)).trans (show _ = some (Value.slice G n cg) by go_simp)
        have ct1 := (hb1.cell (p := ⟨w.heap.size, 1, none⟩) (by simp; omega)).trans (show _ = some (Value.slice T m ct) by go_simp)
        have la1 : w.heap.size + 1 < w1.heap.size := by have := hb1.size; simp at this; omega
        have lg1 : w.heap.size < w1.heap.size := by omega
        have hb1H : Below w.heap.size w w1 := by repeat (first | with_reducible exact bl_refl _ | with_reducible assumption | with_reducible refine bl_al ?_ _ | with_reducible refine bl_dr ?_ | with_reducible refine bl_tr ?_ (by assumption) | with_reducible refine bl_set ?_ ?_ _ | with_reducible exact Nat.le_refl _ | omega | (simp only [World.size_alloc, World.size_setCell, World.size_drew] at *; omega) | (dsimp only; omega) | (simp; done) | (simp; omega))
        go_wp2
        refine wp_region_ord [(0, .q), (1, .q), (2, .q), (3, .q), (4, .q), (5, .g), (6, .g), (7, .q), (8, .q), (9, .q), (10, .q), (11, .q)] (by kernel_rfl) (by kernel_rfl) ?_
        simp only [pick, List.filterMap_cons, List.filterMap_nil, List.getElem?_toArray, List.getElem?_cons_zero, List.getElem?_cons_succ, Option.map_some]
        repeat (first | ((with_reducible refine wpD_p (fun K hK => ?_)); go_simp; refine hK _ ?_; clear hK K) | ((with_reducible refine wpD_q (fun K hK => ?_)); go_simp; (first | refine hK _ ?_ | (go_bits; refine hK _ ?_) | (go_bits; go_simp; refine hK _ ?_)); clear hK K))
        with_reducible refine wpD_g (fun K hK => ?_)
        go_simp
        refine ((hSA.out.below (by repeat (first | with_reducible exact bl_refl _ | with_reducible assumption | with_reducible refine bl_al ?_ _ | with_reducible refine bl_dr ?_ | with_reducible refine bl_tr ?_ (by assumption) | with_reducible refine bl_set ?_ ?_ _ | with_reducible exact Nat.le_refl _ | omega | (simp only [World.size_alloc, World.size_setCell, World.size_drew] at *; omega) | (dsimp only; omega) | (simp; done) | (simp; omega)))).bonds hV).mono ?_
        rintro e w2 ⟨v, rfl, hrow, hb2⟩
        obtain ⟨B, cb, rfl, hB⟩ := rd_of_row hrow
        refine ⟨_, rfl, hb2, hK _ _ ?_⟩
        clear hK K hrow
        have hBH := Lib.hid hB
        clear hB
        with_reducible refine wpD_g (fun K hK => ?_)
        go_simp
        refine (weakest_any q B _ cb (bondsL gs ts xs) _ hBH.out hbq.out hq1 (by omega) (by omega)).mono ?_
        rintro e w3 ⟨v3, rfl, hrow3, hb3⟩
        refine ⟨_, rfl, hb3, hK _ _ ?_⟩
        have hrow3H := Lib.hid hrow3
        clear hK K hrow3
        repeat (first | ((with_reducible refine wpD_p (fun K hK => ?_)); go_simp; refine hK _ ?_; clear hK K) | ((with_reducible refine wpD_q (fun K hK => ?_)); go_simp; (first | refine hK _ ?_ | (go_bits; refine hK _ ?_) | (go_bits; go_simp; refine hK _ ?_)); clear hK K))
        with_reducible refine wpD_nil ?_
        go_wp2
        refine bodyPost_ret (v := .tuple #[.int .i64 (weakR q (bondsL gs ts xs)).1, v3, .int .i64 0]) (by simp only [results, Tryz.results27]; go_simp) rfl ?_
        have hbel : Below w.heap.size w w2 := by repeat (first | with_reducible exact bl_refl _ | with_reducible assumption | with_reducible refine bl_al ?_ _ | with_reducible refine bl_dr ?_ | with_reducible refine bl_tr ?_ (by assumption) | with_reducible refine bl_set ?_ ?_ _ | with_reducible exact Nat.le_refl _ | omega | (simp only [World.size_alloc, World.size_setCell, World.size_drew] at *; omega) | (dsimp only; omega) | (simp; done) | (simp; omega))
        refine FluxRes.of (by rw [← hlen]; exact weakCutR_yes hvH.out (by rw [hlen]; exact h2H.out) (by rw [hlen]; exact h3H.out)) ?_ (by repeat (first | with_reducible exact bl_refl _ | with_reducible assumption | with_reducible refine bl_al ?_ _ | with_reducible refine bl_dr ?_ | with_reducible refine bl_tr ?_ (by assumption) | with_reducible refine bl_set ?_ ?_ _ | with_reducible exact Nat.le_refl _ | omega | (simp only [World.size_alloc, World.size_setCell, World.size_drew] at *; omega) | (dsimp only; omega) | (simp; done) | (simp; omega)))
        rw [hlen]
        exact ownsRow_base hrow3H.out hbel.size
end Go.Proofs.YtbpmamjphdaggaaGreat
