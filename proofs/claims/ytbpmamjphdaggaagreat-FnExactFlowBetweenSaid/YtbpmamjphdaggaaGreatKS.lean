import Derived.Test.YtbpmamjphdaggaaGreatS4
import Derived.Test.YtbpmamjphdaggaaGreatF7
import Derived.Test.YtbpmamjphdaggaaGreatW17a
import Derived.Test.YtbpmamjphdaggaaGreatP8
/- Walks: the reference's greatest flow. -/


namespace Go.Proofs.YtbpmamjphdaggaaGreat
open Go.RowKit Go.Shelf
set_option linter.unusedSimpArgs false
set_option linter.unusedVariables false
attribute [local go_sem] BelowBy.cell BelowBy.cell_drew stillUpon givesUpon BelowBy.cell_drew2 BelowBy.cell_drew3

def FlowRes (w : World) (n : Nat) (B : Option Addr) (m c : Nat) (bs : List Bd) (x y : Nat) (e : Ending) (w' : World) : Prop := ∃ p gF vA uA, e = .returned (.tuple #[.pointer (some ⟨p, 0, none⟩), .int .i64 (flowV n bs x y : Int)]) ∧
  SNet w w' p n gF B m c bs.length bs (iterF n bs x y (flowV n bs x y)) vA uA
set_option maxRecDepth 100000 in
set_option maxHeartbeats 2000000 in
theorem l07Flow_any (n x y : Nat) (B : Option Addr) (m c : Nat) (bs : List Bd) (w : World) (hB : RdSl 3 RBd w B m bs) (hb : BondsOk n bs) (hx : x < n) (hy : y < n) (hxy : x ≠ y) (hn : n ≤ 100000) (hm : m ≤ 100000) :
    Calls Tryz.prog 48 #[.int .i64 (n : Int), .slice B m c, .int .i64 (x : Int), .int .i64 (y : Int)] w (FlowRes w n B m c bs x y) := by
  have hBH := Lib.hid hB
  have hbH := Lib.hid hb
  have hml := Lib.hid hB.len
  clear hB hb
  go_enter Tryz.func48, Tryz.ntmps48
  go_wp2_with (go_at_call 91; refine (l07New_any n B m c bs _ hBH.out hbH.out (by omega) hn hm).mono ?_; rintro e w1 ⟨p, gF, vA, uA, rfl, hS0⟩; have hS0H := Lib.hid hS0; clear hS0)
  go_loopg [11] (8 * m + 1) (fun gk v wr => ∃ (k : Nat) (vA : Value) (uA : List Value), k + gk = 8 * m + 1 ∧ v = .int .i64 (k : Int) ∧ Hid (∀ j, j < k → ¬ stopF n bs x y j) ∧ Hid (SNet w wr p n gF B m c bs.length bs (iterF n bs x y k) vA uA))
  case atStart => exact ⟨0, vA, uA, by omega, rfl, Lib.hid (fun j hj => by omega), hS0H⟩
  case round =>
    clear hS0H
    obtain ⟨k, vA, uA, hk, rfl, hns, hS⟩ := hrel
    have hinv := Lib.hid (iterF_inv hbH.out x y k)
    cases hw : wayTo n (edgeB bs (iterF n bs x y k)) x y with
    | none =>
      have hstop := Lib.hid (show stopF n bs x y k from hw)
      have hv := Lib.hid (flowV_eq hstop.out hns.out)
      have hwH := Lib.hid hw
      clear hw
      go_wp2_with (go_at_call 92; refine (grow_any p n gF B m c x y bs _ vA uA _ hS.out hBH.out hbH.out hinv.out hx hy hn hm).mono ?_; rintro e w2 hg; unfold GrowRes at hg; rw [hwH.out] at hg; obtain ⟨rfl, hS2⟩ := hg; have hS2H := Lib.hid hS2; clear hS2)
      go_ret2
      unfold FlowRes
      rw [hv.out]
      exact ⟨p, gF, vA, uA, rfl, hS2H.out⟩
    | some W =>
      have hnstop := Lib.hid (show ¬ stopF n bs x y k from fun h => by rw [stopF, hw] at h; cases h)
      have hwH := Lib.hid hw
      clear hw
      have hns2 := Lib.hid (show ∀ j, j < k + 1 → ¬ stopF n bs x y j from fun j hj => by
        rcases Nat.lt_succ_iff_lt_or_eq.1 hj with hj | rfl
        · exact hns.out j hj
        · exact hnstop.out)
      have hleft := iterF_left hbH.out hx hxy (k := k + 1) hns2.out
      have hk8 : k + 1 ≤ 8 * m := by have := hml.out; omega
      go_wp2_with (go_at_call 92; refine (grow_any p n gF B m c x y bs _ vA uA _ hS.out hBH.out hbH.out hinv.out hx hy hn hm).mono ?_; rintro e w2 hg; unfold GrowRes at hg; rw [hwH.out] at hg; obtain ⟨rfl, hS2⟩ := hg; have hS2H := Lib.hid hS2; clear hS2)
      go_roundg (8 * m + 1 - (k + 1))
      case measure => omega
      case rel =>
        refine ⟨k + 1, vA, uA, by omega, by go_num, hns2, Lib.hid ?_⟩
        have h := hS2H.out
        simp only [iterF, hwH.out]
        exact h
theorem ownsRow_rebase {w : World} {base base' : Nat} {e : TypeId} {s n : Nat} {x : Value} {xs : List Value} (h : w.ownsRow base e s x n xs) (hb : base' ≤ base) : w.ownsRow base' e s x n xs :=
  ⟨h.1, h.2.imp id (fun ⟨g, cap, cur, h1, h2, h3⟩ => ⟨g, cap, cur, h1, Nat.le_trans hb h2, h3⟩)⟩
theorem leftI_nonneg {l : Nat → Option Nat} {v : Nat} (h : (l v).isSome = true) : ∃ d : Nat, leftI l v = (d : Int) := by
  unfold leftI
  cases hl : l v with
  | none => rw [hl] at h; cases h
  | some d => exact ⟨d, rfl⟩
theorem leftI_neg {l : Nat → Option Nat} {v : Nat} (h : (l v).isSome = false) : leftI l v = -1 := by
  unfold leftI
  cases hl : l v with
  | none => rfl
  | some d => rw [hl] at h; cases h
set_option maxRecDepth 100000 in
set_option maxHeartbeats 2000000 in
theorem side_any {w0 : World} (p n gF : Nat) (B : Option Addr) (m c y : Nat) (bs : List Bd) (f : Nat → Int) (vA : Value) (uA : List Value) (w : World) (h : SNet w0 w p n gF B m c bs.length bs f vA uA) (hB : RdSl 3 RBd w0 B m bs) (hbo : BondsOk n bs) (hinv : InvF bs f) (hy : y < n) (hn : n ≤ 100000) (hm : m ≤ 100000) :
    Calls Tryz.prog 62 #[.pointer (some ⟨p, 0, none⟩), .int .i64 (y : Int)] w (OwnI w (leadL n (edgeB bs f) y n)) := by
  obtain ⟨i1, hi', hz0', hz1', hz2'⟩ := info_parts infoI
  have hN := Lib.hid h
  have hBH := Lib.hid hB
  have hboH := Lib.hid hbo
  have hinvH := Lib.hid hinv
  have lp := h.lt
  have k0 := h.c0
  clear h hB hbo hinv
  go_enter Tryz.func62, Tryz.ntmps62
  go_wp2_with (go_at_call 107; refine (steps_any p n gF B m c y bs f vA uA _ hN.out hBH.out hboH.out hinvH.out hy hn hm).mono ?_; rintro e w1 ⟨g, cg, rfl, hrow, hb1⟩; have hrowH := Lib.hid hrow; have hb1H := Lib.hid hb1; have lx := (hrow.lt g rfl); have hs1 := hb1.size; clear hrow hb1)
  obtain ⟨lx1, lx2⟩ := lx
  obtain ⟨wa, rfl⟩ : ∃ wa : World, wa = w1 := ⟨_, rfl⟩
  go_loopg [6, 7] n (fun gk q v wr => ∃ k : Nat, k + gk = n ∧ v = .int .i64 (k : Int) ∧ Hid (wr.ownsRow wa.heap.size 2 1 q (leadL n (edgeB bs f) y k).length ((intsI (leadL n (edgeB bs f) y k)).map (Value.int .i64))) ∧ Hid (Below wa.heap.size wa wr))
  case atStart => exact ⟨0, by omega, rfl, Lib.hid (by have := World.ownsRow_lit (base := wa.heap.size) (e := 2) (size := 1) wa #[] 0 (Nat.le_refl _) (by decide) rfl; simpa [leadL, intsI] using this), Lib.hid (bl_al (bl_refl _) _)⟩
  case round =>
    obtain ⟨k, hk, rfl, hrow, hbw⟩ := hrel
    have hsz := hbw.out.size
    obtain ⟨A1, c1, rfl⟩ := ownsRow_form hrow.out
    have k1 := ((hbw.out.cell (p := ⟨p, 0, none⟩) (by show p < _; omega)).trans (hb1H.out.cell (p := ⟨p, 0, none⟩) lp)).trans k0
    have lp1 : p < wr.heap.size := by omega
    by_cases hkn : k < n
    · have cx := ((hbw.out.cell (p := ⟨g, k, none⟩) lx2).trans (hrowH.out.cellAt k (by omega))).trans (rowL_get hkn)
      have lg2 : g < wr.heap.size := by omega
      by_cases hd : (distTo n (edgeB bs f) y k).isSome = true
      · obtain ⟨d, hdE⟩ := leftI_nonneg hd
        rw [hdE] at cx
        have hdH := Lib.hid hd
        have hll := leadL_len n (edgeB bs f) y k
        obtain ⟨N, hNE⟩ : ∃ N, (leadL n (edgeB bs f) y k).length = N := ⟨_, rfl⟩
        rw [hNE] at hrow hll ⊢
        have hNH := Lib.hid hNE
        clear hd hdE hNE
        go_wp2_with (at_builtin; refine wpList_append_own _ rfl _ _ 31 rfl wa.heap.size 2 i1 (.int .i64 0) 1 8 Tryz.underlying31 hi' hz0' hz1' hz2' rfl (by decide) _ N ((intsI (leadL n (edgeB bs f) y k)).map (Value.int .i64)) rfl (hrow.out.alloc _) ⟨wr.heap.size, 0, none⟩ 1 1 [.int .i64 (k : Int)] rfl rfl (cell_one_new _ _ _) (fun x hx => by simp at hx; subst hx; rfl) (by unfold maxLen; omega) (by omega) (by simp; omega) ?_; intro u3 w3 hown3 hgrow3 _; have hown3H := Lib.hid hown3; have hgrow3H := Lib.hid hgrow3; clear hown3 hgrow3)
        go_roundg (n - (k + 1))
        case measure => omega
        case rel =>
          refine ⟨k + 1, by omega, by go_num, Lib.hid ?_, Lib.hid (hbw.out.trans (below_app hsz (fun b e => (hrow.out.lt b e).1) hgrow3H.out))⟩
          rw [leadL_yes hdH.out, List.length_append, hNH.out]
          have h3 := hown3H.out
          simpa [intsI] using h3
      · have hd' : (distTo n (edgeB bs f) y k).isSome = false := by simpa using hd
        rw [leftI_neg hd'] at cx
        have hdH := Lib.hid hd'
        clear hd hd'
        go_wp2
        go_roundg (n - (k + 1))
        case measure => omega
        case rel => exact ⟨k + 1, by omega, by go_num, Lib.hid (by rw [leadL_no hdH.out]; exact hrow.out), hbw⟩
    · obtain rfl : k = n := by omega
      go_wp2
      go_ret
      exact ⟨_, rfl, ownsRow_rebase hrow.out hs1, hb1H.out.trans (hbw.out.mono hs1)⟩
end Go.Proofs.YtbpmamjphdaggaaGreat
/- Small words: a result that is a row of numbers and a code. -/

namespace Go.Proofs.YtbpmamjphdaggaaGreat
open Go.RowKit Go.Shelf
set_option linter.unusedSimpArgs false
set_option linter.unusedVariables false

/-- a row of numbers and a code -/
def IntsRes (w : World) (r : List Int × Int) (e : Ending) (w' : World) : Prop :=
  ∃ A c, e = .returned (.tuple #[.slice A r.1.length c, .int .i64 r.2]) ∧ w'.ownsRow w.heap.size 2 1 (.slice A r.1.length c) r.1.length (r.1.map (Value.int .i64)) ∧ Below w.heap.size w w'
theorem rdI_of {W : World} {base : Nat} {v : Value} {bs : List Int} (h : W.ownsRow base 2 1 v bs.length (bs.map (Value.int .i64))) : ∃ A cap, v = .slice A bs.length cap ∧ RdSl 1 RInt W A bs.length bs := by
  rcases h.2 with ⟨rfl, h0⟩ | ⟨g, cap, cur, rfl, hb, hh, hn, hm, hs, ht⟩
  · exact ⟨none, 0, by rw [h0], rfl, fun hp => by omega⟩
  · refine ⟨_, cap, rfl, rfl, fun hp => ⟨g, 0, rfl, (Array.getElem?_eq_some_iff.1 hh).1, fun k hk => ?_⟩⟩
    have hg : (bs.map (Value.int .i64))[k]? = some (.int .i64 bs[k]) := by simp [hk]
    rw [← ht, List.getElem?_take] at hg
    split at hg
    · simp only [RInt, World.cell?, hh, Nat.zero_add, Nat.mul_one]
      simpa using hg
    · cases hg
theorem IntsRes.of {w w' : World} {r : List Int × Int} {bs : List Int} {c : Int} {v : Value} (h : (bs, c) = r) (hr : w'.ownsRow w.heap.size 2 1 v bs.length (bs.map (Value.int .i64))) (hb : Below w.heap.size w w') : IntsRes w r (.returned (.tuple #[v, .int .i64 c])) w' := by
  subst h
  obtain ⟨A, cap, rfl, _⟩ := rdI_of hr
  exact ⟨A, cap, rfl, hr, hb⟩
theorem rdI {W : World} {base : Nat} {A : Option Addr} {n c : Nat} {bs : List Int} (h : W.ownsRow base 2 1 (.slice A n c) n (bs.map (Value.int .i64))) (hn : n = bs.length := by rfl) : RdSl 1 RInt W A n bs := by
  subst hn
  obtain ⟨A', cap, e, h'⟩ := rdI_of h
  injection e with e1 e2 e3
  subst e1
  exact h'
/-- a number, a row of numbers and a code -/
def FluxRes (w : World) (r : Int × List Int × Int) (e : Ending) (w' : World) : Prop :=
  ∃ A c, e = .returned (.tuple #[.int .i64 r.1, .slice A r.2.1.length c, .int .i64 r.2.2]) ∧ w'.ownsRow w.heap.size 2 1 (.slice A r.2.1.length c) r.2.1.length (r.2.1.map (Value.int .i64)) ∧ Below w.heap.size w w'
theorem FluxRes.of {w w' : World} {r : Int × List Int × Int} {bs : List Int} {a c : Int} {v : Value} (h : (a, bs, c) = r) (hr : w'.ownsRow w.heap.size 2 1 v bs.length (bs.map (Value.int .i64))) (hb : Below w.heap.size w w') : FluxRes w r (.returned (.tuple #[.int .i64 a, v, .int .i64 c])) w' := by
  subst h
  obtain ⟨A, cap, rfl, _⟩ := rdI_of hr
  exact ⟨A, cap, rfl, hr, hb⟩
end Go.Proofs.YtbpmamjphdaggaaGreat
/- Walks: the reference's Connectivity, SeparatingPart. -/


namespace Go.Proofs.YtbpmamjphdaggaaGreat
open Go.RowKit Go.Shelf
set_option linter.unusedSimpArgs false
set_option linter.unusedVariables false
attribute [local go_sem] BelowBy.cell BelowBy.cell_drew stillUpon givesUpon BelowBy.cell_drew2 BelowBy.cell_drew3

theorem bondsOk {gs : List Gl} {ts : List Ti} {xs : List Pl} (hV : Valid gs ts xs) : BondsOk xs.length (bondsL gs ts xs) :=
  ⟨fun i e h => (bondsL_at hV h).1, fun i e h => (bondsL_at hV h).2.1, fun i e h => bondsL_ne h, fun i e h => (bondsL_at hV h).2.2⟩
theorem fullCode_zero {v : Bool} {q : Nat} {x y : Int} (h : fullCode v q x y = 0) : v = true ∧ ∃ xn yn : Nat, x = xn ∧ y = yn ∧ xn < q ∧ yn < q ∧ xn ≠ yn ∧ q ≤ 64 := by
  unfold fullCode at h
  split at h
  · rename_i hc; exact (hc h).elim
  · rename_i hc
    have hc : cutCodeI v q x y = 0 := by simpa using hc
    split at h
    · cases h
    · obtain ⟨h1, h2, h3, h4⟩ := cutCodeI_zero hc
      exact ⟨h1, x.toNat, y.toNat, by omega, by omega, by omega, by omega, by omega, by omega⟩
set_option maxRecDepth 100000 in
set_option maxHeartbeats 2000000 in
theorem l07Asked_at {p pa : Nat} {gs : List Gl} {ts : List Ti} {xs : List Pl} {w : World} (h : SAt w p pa gs ts xs) (x y : Int) {r : Int} (hr : fullCode (validAsmB gs ts xs) xs.length x y = r) :
    Calls Tryz.prog 47 #[.pointer (some ⟨p, 0, none⟩), .pointer (some ⟨pa, 0, none⟩), .int .i64 x, .int .i64 y] w fun e w' => e = .returned (.int .i64 r) ∧ Below w.heap.size w w' := by
  have hH := Lib.hid h
  have hq := h.q
  obtain ⟨lq, A, q, ca, cq, hA⟩ := h.a
  have hlen := hA.len
  rw [hlen] at hr hq
  have hrH := Lib.hid hr
  clear hr h hA
  cases hval : validAsmB gs ts xs
  · have h1 : r = 1 := by
      have := hrH.out
      rw [hval] at this
      exact this.symm
    subst h1
    go_enter Tryz.func47, Tryz.ntmps47
    go_wp2_with (go_at_call 64; refine (hH.out.asked hval).mono ?_; rintro e w1 ⟨rfl, hb1⟩; simp only [codeB_false])
    go_ret
    exact ⟨rfl, by repeat (first | with_reducible exact bl_refl _ | with_reducible assumption | with_reducible refine bl_al ?_ _ | with_reducible refine bl_dr ?_ | with_reducible refine bl_tr ?_ (by assumption) | with_reducible refine bl_set ?_ ?_ _ | with_reducible exact Nat.le_refl _ | omega | (simp only [World.size_alloc, World.size_setCell, World.size_drew] at *; omega) | (dsimp only; omega) | (simp; done) | (simp; omega))⟩
  · have hr1 : r = if inB x 0 ((q : Int) - 1) && (inB y 0 ((q : Int) - 1) && !(x == y)) then (if 64 < q then 4 else 0) else 2 := by
      have := hrH.out
      rw [hval] at this
      rw [← this]
      unfold fullCode cutCodeI
      cases inB x 0 ((q : Int) - 1) && (inB y 0 ((q : Int) - 1) && !(x == y)) <;> simp
    have hr1H := Lib.hid hr1
    clear hr1
    cases hx : inB x 0 ((q : Int) - 1)
    · have h2 : r = 2 := by have := hr1H.out; rw [hx] at this; simpa using this
      subst h2
      go_enter Tryz.func47, Tryz.ntmps47
      go_wp2_with (first
        | (go_at_call 64; refine (hH.out.asked hval).mono ?_; rintro e w1 ⟨rfl, hb1⟩; simp only [codeB_true]; have cq1 := (hb1.cell (p := ⟨pa, 0, none⟩) lq).trans cq; have lq1 : pa < w1.heap.size := Nat.lt_of_lt_of_le lq hb1.size)
        | (go_at_call 81; refine (l00In_any _ _ _ _).mono ?_; rintro e _ ⟨rfl, rfl⟩))
      go_ret
      exact ⟨rfl, by repeat (first | with_reducible exact bl_refl _ | with_reducible assumption | with_reducible refine bl_al ?_ _ | with_reducible refine bl_dr ?_ | with_reducible refine bl_tr ?_ (by assumption) | with_reducible refine bl_set ?_ ?_ _ | with_reducible exact Nat.le_refl _ | omega | (simp only [World.size_alloc, World.size_setCell, World.size_drew] at *; omega) | (dsimp only; omega) | (simp; done) | (simp; omega))⟩
    · cases hy : inB y 0 ((q : Int) - 1)
      · have h2 : r = 2 := by have := hr1H.out; rw [hx, hy] at this; simpa using this
        subst h2
        go_enter Tryz.func47, Tryz.ntmps47
        go_wp2_with (first
          | (go_at_call 64; refine (hH.out.asked hval).mono ?_; rintro e w1 ⟨rfl, hb1⟩; simp only [codeB_true]; have cq1 := (hb1.cell (p := ⟨pa, 0, none⟩) lq).trans cq; have lq1 : pa < w1.heap.size := Nat.lt_of_lt_of_le lq hb1.size)
          | (go_at_call 81; refine (l00In_any _ _ _ _).mono ?_; rintro e _ ⟨rfl, rfl⟩))
        go_ret
        exact ⟨rfl, by repeat (first | with_reducible exact bl_refl _ | with_reducible assumption | with_reducible refine bl_al ?_ _ | with_reducible refine bl_dr ?_ | with_reducible refine bl_tr ?_ (by assumption) | with_reducible refine bl_set ?_ ?_ _ | with_reducible exact Nat.le_refl _ | omega | (simp only [World.size_alloc, World.size_setCell, World.size_drew] at *; omega) | (dsimp only; omega) | (simp; done) | (simp; omega))⟩
      · cases hxy : (x == y)
        · by_cases h64 : 64 < q
          · have h4 : r = 4 := by have := hr1H.out; rw [hx, hy, hxy, if_pos h64] at this; simpa using this
            subst h4
            go_enter Tryz.func47, Tryz.ntmps47
            go_wp2_with (first
              | (go_at_call 64; refine (hH.out.asked hval).mono ?_; rintro e w1 ⟨rfl, hb1⟩; simp only [codeB_true]; have cq1 := (hb1.cell (p := ⟨pa, 0, none⟩) lq).trans cq; have lq1 : pa < w1.heap.size := Nat.lt_of_lt_of_le lq hb1.size)
              | (go_at_call 81; refine (l00In_any _ _ _ _).mono ?_; rintro e _ ⟨rfl, rfl⟩))
            go_ret
            exact ⟨rfl, by repeat (first | with_reducible exact bl_refl _ | with_reducible assumption | with_reducible refine bl_al ?_ _ | with_reducible refine bl_dr ?_ | with_reducible refine bl_tr ?_ (by assumption) | with_reducible refine bl_set ?_ ?_ _ | with_reducible exact Nat.le_refl _ | omega | (simp only [World.size_alloc, World.size_setCell, World.size_drew] at *; omega) | (dsimp only; omega) | (simp; done) | (simp; omega))⟩
          · have h4 : r = 0 := by have := hr1H.out; rw [hx, hy, hxy, if_neg h64] at this; simpa using this
            subst h4
            go_enter Tryz.func47, Tryz.ntmps47
            go_wp2_with (first
              | (go_at_call 64; refine (hH.out.asked hval).mono ?_; rintro e w1 ⟨rfl, hb1⟩; simp only [codeB_true]; have cq1 := (hb1.cell (p := ⟨pa, 0, none⟩) lq).trans cq; have lq1 : pa < w1.heap.size := Nat.lt_of_lt_of_le lq hb1.size)
              | (go_at_call 81; refine (l00In_any _ _ _ _).mono ?_; rintro e _ ⟨rfl, rfl⟩))
            go_ret
            exact ⟨rfl, by repeat (first | with_reducible exact bl_refl _ | with_reducible assumption | with_reducible refine bl_al ?_ _ | with_reducible refine bl_dr ?_ | with_reducible refine bl_tr ?_ (by assumption) | with_reducible refine bl_set ?_ ?_ _ | with_reducible exact Nat.le_refl _ | omega | (simp only [World.size_alloc, World.size_setCell, World.size_drew] at *; omega) | (dsimp only; omega) | (simp; done) | (simp; omega))⟩
        · have h2 : r = 2 := by have := hr1H.out; rw [hx, hy, hxy] at this; simpa using this
          subst h2
          go_enter Tryz.func47, Tryz.ntmps47
          go_wp2_with (first
            | (go_at_call 64; refine (hH.out.asked hval).mono ?_; rintro e w1 ⟨rfl, hb1⟩; simp only [codeB_true]; have cq1 := (hb1.cell (p := ⟨pa, 0, none⟩) lq).trans cq; have lq1 : pa < w1.heap.size := Nat.lt_of_lt_of_le lq hb1.size)
            | (go_at_call 81; refine (l00In_any _ _ _ _).mono ?_; rintro e _ ⟨rfl, rfl⟩))
          go_ret
          exact ⟨rfl, by repeat (first | with_reducible exact bl_refl _ | with_reducible assumption | with_reducible refine bl_al ?_ _ | with_reducible refine bl_dr ?_ | with_reducible refine bl_tr ?_ (by assumption) | with_reducible refine bl_set ?_ ?_ _ | with_reducible exact Nat.le_refl _ | omega | (simp only [World.size_alloc, World.size_setCell, World.size_drew] at *; omega) | (dsimp only; omega) | (simp; done) | (simp; omega))⟩
end Go.Proofs.YtbpmamjphdaggaaGreat
/- Walk: the reference's SeparatingPart. -/

namespace Go.Proofs.YtbpmamjphdaggaaGreat
open Go.RowKit Go.Shelf
set_option linter.unusedSimpArgs false
set_option linter.unusedVariables false
attribute [local go_sem] BelowBy.cell BelowBy.cell_drew stillUpon givesUpon BelowBy.cell_drew2 BelowBy.cell_drew3

noncomputable def connR (gs : List Gl) (ts : List Ti) (xs : List Pl) (x y : Int) : Int × Int := if fullCode (validAsmB gs ts xs) xs.length x y = 0 then ((flowV xs.length (bondsL gs ts xs) x.toNat y.toNat : Int), 0) else (0, fullCode (validAsmB gs ts xs) xs.length x y)
noncomputable def lastF (gs : List Gl) (ts : List Ti) (xs : List Pl) (x y : Nat) : Nat → Int := iterF xs.length (bondsL gs ts xs) x y (flowV xs.length (bondsL gs ts xs) x y)
noncomputable def sepR (gs : List Gl) (ts : List Ti) (xs : List Pl) (x y : Int) : List Int × Int := if fullCode (validAsmB gs ts xs) xs.length x y = 0 then (intsI (leadL xs.length (edgeB (bondsL gs ts xs) (lastF gs ts xs x.toNat y.toNat)) y.toNat xs.length), 0) else ([], fullCode (validAsmB gs ts xs) xs.length x y)
theorem connR_no {gs : List Gl} {ts : List Ti} {xs : List Pl} {x y r : Int} (h : fullCode (validAsmB gs ts xs) xs.length x y = r) (h0 : r ≠ 0) : (0, r) = connR gs ts xs x y := by
  unfold connR; rw [h, if_neg h0]
theorem connR_yes {gs : List Gl} {ts : List Ti} {xs : List Pl} {x y : Nat} (h : fullCode (validAsmB gs ts xs) xs.length x y = 0) : ((flowV xs.length (bondsL gs ts xs) x y : Int), 0) = connR gs ts xs x y := by
  unfold connR; rw [if_pos h]; simp
theorem sepR_no {gs : List Gl} {ts : List Ti} {xs : List Pl} {x y r : Int} (h : fullCode (validAsmB gs ts xs) xs.length x y = r) (h0 : r ≠ 0) : ([], r) = sepR gs ts xs x y := by
  unfold sepR; rw [h, if_neg h0]
theorem sepR_yes {gs : List Gl} {ts : List Ti} {xs : List Pl} {x y : Nat} (h : fullCode (validAsmB gs ts xs) xs.length x y = 0) : (intsI (leadL xs.length (edgeB (bondsL gs ts xs) (lastF gs ts xs x y)) y xs.length), 0) = sepR gs ts xs x y := by
  unfold sepR; rw [if_pos h]; simp
theorem sepR_len (gs : List Gl) (ts : List Ti) (xs : List Pl) (x y : Int) : (sepR gs ts xs x y).1.length ≤ 1073741824 := by
  unfold sepR
  split
  · rename_i h
    obtain ⟨_, xn, yn, _, _, _, _, _, hq⟩ := fullCode_zero h
    have := leadL_len xs.length (edgeB (bondsL gs ts xs) (lastF gs ts xs x.toNat y.toNat)) y.toNat xs.length
    simp only [intsI, List.length_map]
    omega
  · simp
set_option maxRecDepth 100000 in
set_option maxHeartbeats 2000000 in
theorem sSeparatingPart_any (G T A : Option Addr) (n cg m ct q ca : Nat) (gs : List Gl) (ts : List Ti) (xs : List Pl) (x y : Int) (w : World) (h : SA w G n T m A q gs ts xs) :
    Calls Tryz.prog 24 #[.agg #[.slice G n cg, .slice T m ct], .agg #[.slice A q ca], .int .i64 x, .int .i64 y] w (IntsRes w (sepR gs ts xs x y)) := by
  have hat := Lib.hid (h.box cg ct ca)
  have hlen := h.A.len
  have hq := h.q
  clear h
  obtain ⟨r, hrE⟩ : ∃ r, fullCode (validAsmB gs ts xs) xs.length x y = r := ⟨_, rfl⟩
  have hrH := Lib.hid hrE
  by_cases hr0 : r = 0
  · subst hr0
    obtain ⟨hval, x, y, rfl, rfl, hx, hy, hxy, h64⟩ := fullCode_zero hrE
    have hV := valid_of hval
    have hbo := Lib.hid (bondsOk hV)
    have hbl := bondsL_len hV
    clear hrE hval
    rw [hlen] at hx hy h64
    go_enter Tryz.func24, Tryz.ntmps24
    go_wp2_with (go_at_call 47; refine (l07Asked_at hat.out _ _ hrH.out).mono ?_; rintro e w1 ⟨rfl, hb1⟩; have hat1 := Lib.hid (hat.out.below hb1); have ca1 := (hb1.cell (p := ⟨w.heap.size + 1, 0, none⟩) (by simp)).trans (show _ = some (Value.slice A q ca) by go_simp); have la1 : w.heap.size + 1 < w1.heap.size := by have := hb1.size; simp at this; omega)
    refine wp_region_ord [(0, .q), (1, .q), (2, .q), (4, .q), (5, .q), (3, .g), (6, .g), (7, .q), (8, .q), (9, .q), (10, .q), (11, .q)] (by kernel_rfl) (by kernel_rfl) ?_
    simp only [pick, List.filterMap_cons, List.filterMap_nil, List.getElem?_toArray, List.getElem?_cons_zero, List.getElem?_cons_succ, Option.map_some]
    repeat (first | ((with_reducible refine wpD_p (fun K hK => ?_)); go_simp; refine hK _ ?_; clear hK K) | ((with_reducible refine wpD_q (fun K hK => ?_)); go_simp; (first | refine hK _ ?_ | (go_bits; refine hK _ ?_) | (go_bits; go_simp; refine hK _ ?_)); clear hK K))
    with_reducible refine wpD_g (fun K hK => ?_)
    go_simp
    refine ((hat1.out.below (by repeat (first | with_reducible exact bl_refl _ | with_reducible assumption | with_reducible refine bl_al ?_ _ | with_reducible refine bl_dr ?_ | with_reducible refine bl_tr ?_ (by assumption) | with_reducible refine bl_set ?_ ?_ _ | with_reducible exact Nat.le_refl _ | omega | (simp only [World.size_alloc, World.size_setCell, World.size_drew] at *; omega) | (dsimp only; omega) | (simp; done) | (simp; omega)))).bonds hV).mono ?_
    rintro e w2 ⟨v, rfl, hrow, hb2⟩
    obtain ⟨B, cb, rfl, hB⟩ := rd_of_row hrow
    refine ⟨_, rfl, hb2, hK _ _ ?_⟩
    clear hK K hrow
    have hBH := Lib.hid hB
    clear hB
    with_reducible refine wpD_g (fun K hK => ?_)
    go_simp
    refine (l07Flow_any q x y B _ cb (bondsL gs ts xs) _ hBH.out (by rw [← hlen]; exact hbo.out) hx hy hxy (by omega) (by omega)).mono ?_
    rintro e w3 ⟨p, gF, vA, uA, rfl, hS⟩
    have hb3 := hS.bw
    have hSH := Lib.hid hS
    have hbq := Lib.hid (show BondsOk q (bondsL gs ts xs) by rw [← hlen]; exact hbo.out)
    refine ⟨_, rfl, hb3, hK _ _ ?_⟩
    clear hK K hS
    repeat (first | ((with_reducible refine wpD_p (fun K hK => ?_)); go_simp; refine hK _ ?_; clear hK K) | ((with_reducible refine wpD_q (fun K hK => ?_)); go_simp; (first | refine hK _ ?_ | (go_bits; refine hK _ ?_) | (go_bits; go_simp; refine hK _ ?_)); clear hK K))
    with_reducible refine wpD_nil ?_
    go_wp2_with (go_at_call 62; refine (side_any p q gF B _ cb y (bondsL gs ts xs) _ vA uA _ hSH.out hBH.out hbq.out (iterF_inv hbq.out x y _) hy (by omega) (by omega)).mono ?_; rintro e w4 ⟨v, rfl, hrow, hb4⟩; have hrowH := Lib.hid hrow; clear hrow)
    go_ret2
    have hbel : Below w.heap.size w w4 := by repeat (first | with_reducible exact bl_refl _ | with_reducible assumption | with_reducible refine bl_al ?_ _ | with_reducible refine bl_dr ?_ | with_reducible refine bl_tr ?_ (by assumption) | with_reducible refine bl_set ?_ ?_ _ | with_reducible exact Nat.le_refl _ | omega | (simp only [World.size_alloc, World.size_setCell, World.size_drew] at *; omega) | (dsimp only; omega) | (simp; done) | (simp; omega))
    have hbel3 : Below w.heap.size w w3 := by repeat (first | with_reducible exact bl_refl _ | with_reducible assumption | with_reducible refine bl_al ?_ _ | with_reducible refine bl_dr ?_ | with_reducible refine bl_tr ?_ (by assumption) | with_reducible refine bl_set ?_ ?_ _ | with_reducible exact Nat.le_refl _ | omega | (simp only [World.size_alloc, World.size_setCell, World.size_drew] at *; omega) | (dsimp only; omega) | (simp; done) | (simp; omega))
    refine IntsRes.of (sepR_yes hrH.out) ?_ hbel
    have h5 := hrowH.out
    unfold lastF
    rw [hlen, show (intsI (leadL q (edgeB (bondsL gs ts xs) (iterF q (bondsL gs ts xs) x y (flowV q (bondsL gs ts xs) x y))) y q)).length = (leadL q (edgeB (bondsL gs ts xs) (iterF q (bondsL gs ts xs) x y (flowV q (bondsL gs ts xs) x y))) y q).length by simp [intsI]]
    exact ownsRow_base h5 hbel3.size
  · have hr0' : (r != 0) = true := by simpa using hr0
    clear hrE
    go_enter Tryz.func24, Tryz.ntmps24
    go_wp2_with (go_at_call 47; refine (l07Asked_at hat.out _ _ hrH.out).mono ?_; rintro e w1 ⟨rfl, hb1⟩)
    go_ret2
    exact IntsRes.of (sepR_no hrH.out hr0) (World.ownsRow_nil _ _ _ _) (by repeat (first | with_reducible exact bl_refl _ | with_reducible assumption | with_reducible refine bl_al ?_ _ | with_reducible refine bl_dr ?_ | with_reducible refine bl_tr ?_ (by assumption) | with_reducible refine bl_set ?_ ?_ _ | with_reducible exact Nat.le_refl _ | omega | (simp only [World.size_alloc, World.size_setCell, World.size_drew] at *; omega) | (dsimp only; omega) | (simp; done) | (simp; omega)))
end Go.Proofs.YtbpmamjphdaggaaGreat
/- Walks: codes; the program's SeparatingPart. -/


namespace Go.Proofs.YtbpmamjphdaggaaGreat
open Go.RowKit Go.Shelf
set_option linter.unusedSimpArgs false
set_option linter.unusedVariables false
attribute [local go_sem] BelowBy.cell BelowBy.cell_drew stillUpon givesUpon BelowBy.cell_drew2 BelowBy.cell_drew3

set_option maxRecDepth 100000 in
set_option maxHeartbeats 2000000 in
theorem fullCut_at {G T A : Option Addr} {n cg m ct q ca : Nat} {gs : List Gl} {ts : List Ti} {xs : List Pl} {w : World} (h : SA w G n T m A q gs ts xs) (x y : Int) {r : Int} (hr : fullCode (validAsmB gs ts xs) xs.length x y = r) :
    Calls Tryz.prog 53 #[.agg #[.slice G n cg, .slice T m ct], .agg #[.slice A q ca], .int .i64 x, .int .i64 y] w fun e w' => e = .returned (.int .i64 r) ∧ Below w.heap.size w w' := by
  have hH := Lib.hid h
  have hq := h.q
  have hgm := h.gm
  have htm := h.tm
  have hgm2 : n ≤ 281474976710656 := by omega
  have htm2 : m ≤ 281474976710656 := by omega
  obtain ⟨cc, hcE⟩ : ∃ cc, cutCodeI (validAsmB gs ts xs) xs.length x y = cc := ⟨_, rfl⟩
  have hcH := Lib.hid hcE
  have hr1 : r = if cc ≠ 0 then cc else if 64 < q then 4 else 0 := by rw [← hr]; unfold fullCode; rw [hcE, h.A.len]
  clear hr h hcE
  by_cases hc0 : cc = 0
  · subst hc0
    rw [if_neg (by simp)] at hr1
    by_cases h64 : 64 < q
    · rw [if_pos h64] at hr1
      subst hr1
      go_enter Tryz.func53, Tryz.ntmps53
      go_wp2_with (go_at_call 98; refine (cutCode_at (hH.out.G.below RGl.stable (by repeat (first | with_reducible exact bl_refl _ | with_reducible assumption | with_reducible refine bl_al ?_ _ | with_reducible refine bl_dr ?_ | with_reducible refine bl_tr ?_ (by assumption) | with_reducible refine bl_set ?_ ?_ _ | with_reducible exact Nat.le_refl _ | omega | (simp only [World.size_alloc, World.size_setCell, World.size_drew] at *; omega) | (dsimp only; omega) | (simp; done) | (simp; omega)))) (hH.out.T.below RTi.stable (by repeat (first | with_reducible exact bl_refl _ | with_reducible assumption | with_reducible refine bl_al ?_ _ | with_reducible refine bl_dr ?_ | with_reducible refine bl_tr ?_ (by assumption) | with_reducible refine bl_set ?_ ?_ _ | with_reducible exact Nat.le_refl _ | omega | (simp only [World.size_alloc, World.size_setCell, World.size_drew] at *; omega) | (dsimp only; omega) | (simp; done) | (simp; omega)))) (hH.out.A.below RPl.stable (by repeat (first | with_reducible exact bl_refl _ | with_reducible assumption | with_reducible refine bl_al ?_ _ | with_reducible refine bl_dr ?_ | with_reducible refine bl_tr ?_ (by assumption) | with_reducible refine bl_set ?_ ?_ _ | with_reducible exact Nat.le_refl _ | omega | (simp only [World.size_alloc, World.size_setCell, World.size_drew] at *; omega) | (dsimp only; omega) | (simp; done) | (simp; omega)))) hgm2 htm2 hq hH.out.gn hH.out.tn hcH.out).mono ?_; rintro e w1 ⟨rfl, hb1⟩; have ca1 := (hb1.cell (p := ⟨w.heap.size + 1, 0, none⟩) (by simp)).trans (show _ = some (Value.slice A q ca) by go_simp); have la1 : w.heap.size + 1 < w1.heap.size := by have := hb1.size; simp at this; omega)
      go_ret
      exact ⟨rfl, by repeat (first | with_reducible exact bl_refl _ | with_reducible assumption | with_reducible refine bl_al ?_ _ | with_reducible refine bl_dr ?_ | with_reducible refine bl_tr ?_ (by assumption) | with_reducible refine bl_set ?_ ?_ _ | with_reducible exact Nat.le_refl _ | omega | (simp only [World.size_alloc, World.size_setCell, World.size_drew] at *; omega) | (dsimp only; omega) | (simp; done) | (simp; omega))⟩
    · rw [if_neg h64] at hr1
      subst hr1
      go_enter Tryz.func53, Tryz.ntmps53
      go_wp2_with (go_at_call 98; refine (cutCode_at (hH.out.G.below RGl.stable (by repeat (first | with_reducible exact bl_refl _ | with_reducible assumption | with_reducible refine bl_al ?_ _ | with_reducible refine bl_dr ?_ | with_reducible refine bl_tr ?_ (by assumption) | with_reducible refine bl_set ?_ ?_ _ | with_reducible exact Nat.le_refl _ | omega | (simp only [World.size_alloc, World.size_setCell, World.size_drew] at *; omega) | (dsimp only; omega) | (simp; done) | (simp; omega)))) (hH.out.T.below RTi.stable (by repeat (first | with_reducible exact bl_refl _ | with_reducible assumption | with_reducible refine bl_al ?_ _ | with_reducible refine bl_dr ?_ | with_reducible refine bl_tr ?_ (by assumption) | with_reducible refine bl_set ?_ ?_ _ | with_reducible exact Nat.le_refl _ | omega | (simp only [World.size_alloc, World.size_setCell, World.size_drew] at *; omega) | (dsimp only; omega) | (simp; done) | (simp; omega)))) (hH.out.A.below RPl.stable (by repeat (first | with_reducible exact bl_refl _ | with_reducible assumption | with_reducible refine bl_al ?_ _ | with_reducible refine bl_dr ?_ | with_reducible refine bl_tr ?_ (by assumption) | with_reducible refine bl_set ?_ ?_ _ | with_reducible exact Nat.le_refl _ | omega | (simp only [World.size_alloc, World.size_setCell, World.size_drew] at *; omega) | (dsimp only; omega) | (simp; done) | (simp; omega)))) hgm2 htm2 hq hH.out.gn hH.out.tn hcH.out).mono ?_; rintro e w1 ⟨rfl, hb1⟩; have ca1 := (hb1.cell (p := ⟨w.heap.size + 1, 0, none⟩) (by simp)).trans (show _ = some (Value.slice A q ca) by go_simp); have la1 : w.heap.size + 1 < w1.heap.size := by have := hb1.size; simp at this; omega)
      go_ret
      exact ⟨rfl, by repeat (first | with_reducible exact bl_refl _ | with_reducible assumption | with_reducible refine bl_al ?_ _ | with_reducible refine bl_dr ?_ | with_reducible refine bl_tr ?_ (by assumption) | with_reducible refine bl_set ?_ ?_ _ | with_reducible exact Nat.le_refl _ | omega | (simp only [World.size_alloc, World.size_setCell, World.size_drew] at *; omega) | (dsimp only; omega) | (simp; done) | (simp; omega))⟩
  · have hc1 : (cc != 0) = true := by simpa using hc0
    rw [if_pos hc0] at hr1
    subst hr1
    go_enter Tryz.func53, Tryz.ntmps53
    go_wp2_with (go_at_call 98; refine (cutCode_at (hH.out.G.below RGl.stable (by repeat (first | with_reducible exact bl_refl _ | with_reducible assumption | with_reducible refine bl_al ?_ _ | with_reducible refine bl_dr ?_ | with_reducible refine bl_tr ?_ (by assumption) | with_reducible refine bl_set ?_ ?_ _ | with_reducible exact Nat.le_refl _ | omega | (simp only [World.size_alloc, World.size_setCell, World.size_drew] at *; omega) | (dsimp only; omega) | (simp; done) | (simp; omega)))) (hH.out.T.below RTi.stable (by repeat (first | with_reducible exact bl_refl _ | with_reducible assumption | with_reducible refine bl_al ?_ _ | with_reducible refine bl_dr ?_ | with_reducible refine bl_tr ?_ (by assumption) | with_reducible refine bl_set ?_ ?_ _ | with_reducible exact Nat.le_refl _ | omega | (simp only [World.size_alloc, World.size_setCell, World.size_drew] at *; omega) | (dsimp only; omega) | (simp; done) | (simp; omega)))) (hH.out.A.below RPl.stable (by repeat (first | with_reducible exact bl_refl _ | with_reducible assumption | with_reducible refine bl_al ?_ _ | with_reducible refine bl_dr ?_ | with_reducible refine bl_tr ?_ (by assumption) | with_reducible refine bl_set ?_ ?_ _ | with_reducible exact Nat.le_refl _ | omega | (simp only [World.size_alloc, World.size_setCell, World.size_drew] at *; omega) | (dsimp only; omega) | (simp; done) | (simp; omega)))) hgm2 htm2 hq hH.out.gn hH.out.tn hcH.out).mono ?_; rintro e w1 ⟨rfl, hb1⟩)
    go_ret
    exact ⟨rfl, by repeat (first | with_reducible exact bl_refl _ | with_reducible assumption | with_reducible refine bl_al ?_ _ | with_reducible refine bl_dr ?_ | with_reducible refine bl_tr ?_ (by assumption) | with_reducible refine bl_set ?_ ?_ _ | with_reducible exact Nat.le_refl _ | omega | (simp only [World.size_alloc, World.size_setCell, World.size_drew] at *; omega) | (dsimp only; omega) | (simp; done) | (simp; omega))⟩
set_option maxRecDepth 100000 in
set_option maxHeartbeats 2000000 in
theorem SeparatingPart_any (G T A : Option Addr) (n cg m ct q ca : Nat) (gs : List Gl) (ts : List Ti) (xs : List Pl) (x y : Int) (w : World) (h : SA w G n T m A q gs ts xs) :
    Calls Tryz.prog 25 #[.agg #[.slice G n cg, .slice T m ct], .agg #[.slice A q ca], .int .i64 x, .int .i64 y] w (IntsRes w (sepR gs ts xs x y)) := by
  have hSA := Lib.hid h
  have hlen := h.A.len
  have hq := h.q
  clear h
  obtain ⟨r, hrE⟩ : ∃ r, fullCode (validAsmB gs ts xs) xs.length x y = r := ⟨_, rfl⟩
  have hrH := Lib.hid hrE
  by_cases hr0 : r = 0
  · subst hr0
    obtain ⟨hval, x, y, rfl, rfl, hx, hy, hxy, h64⟩ := fullCode_zero hrE
    have hV := valid_of hval
    have hbo := Lib.hid (bondsOk hV)
    have hbl := bondsL_len hV
    clear hrE hval
    rw [hlen] at hx hy h64
    go_enter Tryz.func25, Tryz.ntmps25
    go_wp2_with (go_at_call 53; refine (fullCut_at (hSA.out.below (by repeat (first | with_reducible exact bl_refl _ | with_reducible assumption | with_reducible refine bl_al ?_ _ | with_reducible refine bl_dr ?_ | with_reducible refine bl_tr ?_ (by assumption) | with_reducible refine bl_set ?_ ?_ _ | with_reducible exact Nat.le_refl _ | omega | (simp only [World.size_alloc, World.size_setCell, World.size_drew] at *; omega) | (dsimp only; omega) | (simp; done) | (simp; omega)))) _ _ hrH.out).mono ?_; rintro e w1 ⟨rfl, hb1⟩; have ca1 := (hb1.cell (p := ⟨w.heap.size + 1, 0, none⟩) (by simp)).trans (show _ = some (Value.slice A q ca) by go_simp); have cg1 := (hb1.cell (p := ⟨w.heap.size, 0, none⟩) (by simp; omega)).trans (show _ = some (Value.slice G n cg) by go_simp); have ct1 := (hb1.cell (p := ⟨w.heap.size, 1, none⟩) (by simp; omega)).trans (show _ = some (Value.slice T m ct) by go_simp); have la1 : w.heap.size + 1 < w1.heap.size := by have := hb1.size; simp at this; omega)
    have hb1H : Below w.heap.size w w1 := by repeat (first | with_reducible exact bl_refl _ | with_reducible assumption | with_reducible refine bl_al ?_ _ | with_reducible refine bl_dr ?_ | with_reducible refine bl_tr ?_ (by assumption) | with_reducible refine bl_set ?_ ?_ _ | with_reducible exact Nat.le_refl _ | omega | (simp only [World.size_alloc, World.size_setCell, World.size_drew] at *; omega) | (dsimp only; omega) | (simp; done) | (simp; omega))
    have lg1 : w.heap.size < w1.heap.size := by omega
    refine wp_region_ord [(0, .q), (1, .q), (2, .q), (3, .q), (4, .q), (6, .q), (7, .q), (5, .g), (8, .g), (9, .q), (10, .q), (11, .q), (12, .q), (13, .q)] (by kernel_rfl) (by kernel_rfl) ?_
    simp only [pick, List.filterMap_cons, List.filterMap_nil, List.getElem?_toArray, List.getElem?_cons_zero, List.getElem?_cons_succ, Option.map_some]
    repeat (first | ((with_reducible refine wpD_p (fun K hK => ?_)); go_simp; refine hK _ ?_; clear hK K) | ((with_reducible refine wpD_q (fun K hK => ?_)); go_simp; (first | refine hK _ ?_ | (go_bits; refine hK _ ?_) | (go_bits; go_simp; refine hK _ ?_)); clear hK K))
    with_reducible refine wpD_g (fun K hK => ?_)
    go_simp
    refine ((hSA.out.below (by repeat (first | with_reducible exact bl_refl _ | with_reducible assumption | with_reducible refine bl_al ?_ _ | with_reducible refine bl_dr ?_ | with_reducible refine bl_tr ?_ (by assumption) | with_reducible refine bl_set ?_ ?_ _ | with_reducible exact Nat.le_refl _ | omega | (simp only [World.size_alloc, World.size_setCell, World.size_drew] at *; omega) | (dsimp only; omega) | (simp; done) | (simp; omega)))).bonds hV).mono ?_
    rintro e w2 ⟨v, rfl, hrow, hb2⟩
    obtain ⟨B, cb, rfl, hB⟩ := rd_of_row hrow
    refine ⟨_, rfl, hb2, hK _ _ ?_⟩
    clear hK K hrow
    have hBH := Lib.hid hB
    have hbq := Lib.hid (show BondsOk q (bondsL gs ts xs) by rw [← hlen]; exact hbo.out)
    clear hB
    with_reducible refine wpD_g (fun K hK => ?_)
    go_simp
    refine (flowing_any q x y B cb (bondsL gs ts xs) _ hBH.out hbq.out hx hy hxy (by omega) (by omega)).mono ?_
    rintro e w3 ⟨p, vR, vF, uR, uF, rfl, hN, hb3⟩
    refine ⟨_, rfl, hb3, hK _ _ ?_⟩
    have hNH := Lib.hid hN
    clear hK K hN
    repeat (first | ((with_reducible refine wpD_p (fun K hK => ?_)); go_simp; refine hK _ ?_; clear hK K) | ((with_reducible refine wpD_q (fun K hK => ?_)); go_simp; (first | refine hK _ ?_ | (go_bits; refine hK _ ?_) | (go_bits; go_simp; refine hK _ ?_)); clear hK K))
    with_reducible refine wpD_nil ?_
    go_wp2_with (go_at_call 63; refine (leadingTo_any _ p q y _ _ vR vF uR uF _ hNH.out hy (by omega)).mono ?_; rw [freeE_eq hbq.out (iterF_inv hbq.out x y _)]; rintro e w4 ⟨v, rfl, hrow, hb4⟩; have hrowH := Lib.hid hrow; clear hrow)
    go_ret2
    have hbel : Below w.heap.size w w4 := by repeat (first | with_reducible exact bl_refl _ | with_reducible assumption | with_reducible refine bl_al ?_ _ | with_reducible refine bl_dr ?_ | with_reducible refine bl_tr ?_ (by assumption) | with_reducible refine bl_set ?_ ?_ _ | with_reducible exact Nat.le_refl _ | omega | (simp only [World.size_alloc, World.size_setCell, World.size_drew] at *; omega) | (dsimp only; omega) | (simp; done) | (simp; omega))
    have hbel3 : Below w.heap.size w w3 := by repeat (first | with_reducible exact bl_refl _ | with_reducible assumption | with_reducible refine bl_al ?_ _ | with_reducible refine bl_dr ?_ | with_reducible refine bl_tr ?_ (by assumption) | with_reducible refine bl_set ?_ ?_ _ | with_reducible exact Nat.le_refl _ | omega | (simp only [World.size_alloc, World.size_setCell, World.size_drew] at *; omega) | (dsimp only; omega) | (simp; done) | (simp; omega))
    refine IntsRes.of (sepR_yes hrH.out) ?_ hbel
    have h5 := hrowH.out
    unfold lastF
    rw [hlen, show (intsI (leadL q (edgeB (bondsL gs ts xs) (iterF q (bondsL gs ts xs) x y (flowV q (bondsL gs ts xs) x y))) y q)).length = (leadL q (edgeB (bondsL gs ts xs) (iterF q (bondsL gs ts xs) x y (flowV q (bondsL gs ts xs) x y))) y q).length by simp [intsI]]
    exact ownsRow_base h5 hbel3.size
  · have hr0' : (r != 0) = true := by simpa using hr0
    clear hrE
    go_enter Tryz.func25, Tryz.ntmps25
    go_wp2_with (go_at_call 53; refine (fullCut_at (hSA.out.below (by repeat (first | with_reducible exact bl_refl _ | with_reducible assumption | with_reducible refine bl_al ?_ _ | with_reducible refine bl_dr ?_ | with_reducible refine bl_tr ?_ (by assumption) | with_reducible refine bl_set ?_ ?_ _ | with_reducible exact Nat.le_refl _ | omega | (simp only [World.size_alloc, World.size_setCell, World.size_drew] at *; omega) | (dsimp only; omega) | (simp; done) | (simp; omega)))) _ _ hrH.out).mono ?_; rintro e w1 ⟨rfl, hb1⟩)
    go_ret2
    exact IntsRes.of (sepR_no hrH.out hr0) (World.ownsRow_nil _ _ _ _) (by repeat (first | with_reducible exact bl_refl _ | with_reducible assumption | with_reducible refine bl_al ?_ _ | with_reducible refine bl_dr ?_ | with_reducible refine bl_tr ?_ (by assumption) | with_reducible refine bl_set ?_ ?_ _ | with_reducible exact Nat.le_refl _ | omega | (simp only [World.size_alloc, World.size_setCell, World.size_drew] at *; omega) | (dsimp only; omega) | (simp; done) | (simp; omega)))
end Go.Proofs.YtbpmamjphdaggaaGreat
/- Plain facts: at most one bond joins two points, so the flow between two points is the bond's. -/

namespace Go.Proofs.YtbpmamjphdaggaaGreat
set_option linter.unusedSimpArgs false
set_option linter.unusedVariables false
def sameB (a b c d : Nat) : Prop := (a = c ∧ b = d) ∨ (a = d ∧ b = c)
theorem nb_at {xs : List Pl} {i d : Nat} {x : NbT xs} (h : x ∈ nb xs i d) : x.1.1 = i ∧ ∃ e e', xs[i]? = some e ∧ xs[x.1.2.1]? = some e' ∧ e'.x = stepX e.x d ∧ e'.y = stepY e.y d := by
  unfold nb at h
  cases he : xs[i]? with
  | none => simp only [he] at h; cases h
  | some e =>
    simp only [he] at h
    split at h
    · rename_i hh
      obtain rfl := List.mem_singleton.1 h
      refine ⟨rfl, e, ?_⟩
      rcases placeI_is xs (stepX e.x d) (stepY e.y d) with ⟨h1, _⟩ | ⟨k, e', h1, he', hx, hy⟩
      · omega
      · refine ⟨e', rfl, ?_, hx, hy⟩
        dsimp only
        rw [h1, Int.toNat_natCast]
        exact he'
    · cases h
theorem nbAll_at {xs : List Pl} {n : Nat} {x : NbT xs} (h : x ∈ nbAll xs n) : ∃ i d, i < n ∧ (d = 0 ∨ d = 1) ∧ x ∈ nb xs i d := by
  induction n with
  | zero => simp [nbAll] at h
  | succ n ih =>
    simp only [nbAll, List.mem_append] at h
    rcases h with h | h | h
    · obtain ⟨i, d, h1, h2, h3⟩ := ih h
      exact ⟨i, d, by omega, h2, h3⟩
    · exact ⟨n, 1, by omega, .inr rfl, h⟩
    · exact ⟨n, 0, by omega, .inl rfl, h⟩
/-- two of them that join the same points are of one point and one direction -/
theorem nb_same {xs : List Pl} {i j d d' : Nat} {x y : NbT xs} (hx : x ∈ nb xs i d) (hy : y ∈ nb xs j d') (hd : d = 0 ∨ d = 1) (hd' : d' = 0 ∨ d' = 1) (h : sameB x.1.1 x.1.2.1 y.1.1 y.1.2.1) : i = j ∧ d = d' := by
  obtain ⟨h1, e, f, he, hf, hx1, hx2⟩ := nb_at hx
  obtain ⟨h2, e', f', he', hf', hy1, hy2⟩ := nb_at hy
  unfold stepX at hx1 hy1
  unfold stepY at hx2 hy2
  rcases h with ⟨h3, h4⟩ | ⟨h3, h4⟩
  · have hij : i = j := by rw [← h1, ← h2, h3]
    subst hij
    rw [he] at he'
    obtain rfl := Option.some.inj he'
    rw [h4, hf'] at hf
    obtain rfl := Option.some.inj hf
    refine ⟨rfl, ?_⟩
    rcases hd with rfl | rfl <;> rcases hd' with rfl | rfl <;> simp at hx1 hx2 hy1 hy2 <;> omega
  · exfalso
    rw [h1] at h3
    rw [h2] at h4
    rw [← h3, he] at hf'
    obtain rfl := Option.some.inj hf'
    rw [h4, he'] at hf
    obtain rfl := Option.some.inj hf
    rcases hd with rfl | rfl <;> rcases hd' with rfl | rfl <;> simp at hx1 hx2 hy1 hy2 <;> omega
theorem nb_pair {xs : List Pl} {i d : Nat} (R : NbT xs → NbT xs → Prop) : (nb xs i d).Pairwise R := by
  unfold nb
  split
  · exact .nil
  · split
    · exact List.pairwise_singleton _ _
    · exact .nil
theorem nbAll_pair (xs : List Pl) (n : Nat) : (nbAll xs n).Pairwise fun x y => ¬ sameB x.1.1 x.1.2.1 y.1.1 y.1.2.1 := by
  induction n with
  | zero => exact .nil
  | succ n ih =>
    simp only [nbAll]
    refine List.pairwise_append.2 ⟨ih, List.pairwise_append.2 ⟨nb_pair _, nb_pair _, fun x hx y hy hs => ?_⟩, fun x hx y hy hs => ?_⟩
    · have := (nb_same hx hy (.inr rfl) (.inl rfl) hs).2
      cases this
    · obtain ⟨i, d, hi, hd, hx⟩ := nbAll_at hx
      rcases List.mem_append.1 hy with hy | hy
      · have := (nb_same hx hy hd (.inr rfl) hs).1; omega
      · have := (nb_same hx hy hd (.inl rfl) hs).1; omega
/-- no two of them join the same points -/
def SimpleB (bs : List Bd) : Prop := ∀ (i j : Nat) (e f : Bd), bs[i]? = some e → bs[j]? = some f → sameB e.a e.b f.a f.b → i = j
theorem sameB.symm {a b c d : Nat} (h : sameB a b c d) : sameB c d a b := by
  rcases h with ⟨h1, h2⟩ | ⟨h1, h2⟩
  · exact .inl ⟨h1.symm, h2.symm⟩
  · exact .inr ⟨h2.symm, h1.symm⟩
theorem bondsL_simple (gs : List Gl) (ts : List Ti) (xs : List Pl) : SimpleB (bondsL gs ts xs) := by
  have hp : (bondsL gs ts xs).Pairwise fun e f => ¬ sameB e.a e.b f.a f.b := by
    unfold bondsL bdL
    refine List.Pairwise.filterMap _ (fun x y hxy b hb b' hb' => ?_) (nbAll_pair xs xs.length)
    split at hb
    · split at hb'
      · obtain rfl := Option.some.inj hb
        obtain rfl := Option.some.inj hb'
        exact hxy
      · cases hb'
    · cases hb
  intro i j e f he hf hs
  have hi := List.getElem?_eq_some_iff.1 he
  have hj := List.getElem?_eq_some_iff.1 hf
  obtain ⟨hi, rfl⟩ := hi
  obtain ⟨hj, rfl⟩ := hj
  rw [List.pairwise_iff_getElem] at hp
  rcases Nat.lt_trichotomy i j with h | h | h
  · exact (hp i j hi hj h hs).elim
  · exact h
  · exact (hp j i hj hi h hs.symm).elim
theorem flowM_at {bs : List Bd} (hs : SimpleB bs) (f : Nat → Int) {i : Nat} {e : Bd} (he : bs[i]? = some e) : ∀ m, flowM bs f m e.a e.b = if i < m then f i else 0 := by
  intro m
  induction m with
  | zero => simp [flowM]
  | succ m ih =>
    simp only [flowM, ih]
    cases hb : bs[m]? with
    | none =>
      have hm : ¬ m = i := fun h => by rw [h, he] at hb; cases hb
      dsimp only
      rw [Int.add_zero]
      by_cases hl : i < m
      · rw [if_pos hl, if_pos (by omega)]
      · rw [if_neg hl, if_neg (by omega)]
    | some e' =>
      dsimp only
      by_cases hm : m = i
      · subst hm
        rw [he] at hb
        obtain rfl := Option.some.inj hb
        rw [if_neg (by omega), if_pos ⟨rfl, rfl⟩, if_pos (by omega), Int.zero_add]
      · rw [if_neg (fun h => hm (hs m i e' e hb he (.inl h))), if_neg (fun h => hm (hs m i e' e hb he (.inr h))), Int.add_zero]
        by_cases hl : i < m
        · rw [if_pos hl, if_pos (by omega)]
        · rw [if_neg hl, if_neg (by omega)]
end Go.Proofs.YtbpmamjphdaggaaGreat
/- Walk: the reference's FlowBetween. -/


namespace Go.Proofs.YtbpmamjphdaggaaGreat
open Go.RowKit Go.Shelf
set_option linter.unusedSimpArgs false
set_option linter.unusedVariables false
attribute [local go_sem] BelowBy.cell BelowBy.cell_drew stillUpon givesUpon BelowBy.cell_drew2 BelowBy.cell_drew3

/-- the first k flows -/
noncomputable def flowL (gs : List Gl) (ts : List Ti) (xs : List Pl) (x y k : Nat) : List Int := (List.range k).map (lastF gs ts xs x y)
theorem flowL_len (gs : List Gl) (ts : List Ti) (xs : List Pl) (x y k : Nat) : (flowL gs ts xs x y k).length = k := by simp [flowL]
theorem flowL_succ (gs : List Gl) (ts : List Ti) (xs : List Pl) (x y k : Nat) : flowL gs ts xs x y (k + 1) = flowL gs ts xs x y k ++ [lastF gs ts xs x y k] := by simp [flowL, List.range_succ]
noncomputable def fluxR (gs : List Gl) (ts : List Ti) (xs : List Pl) (x y : Int) : Int × List Int × Int := if fullCode (validAsmB gs ts xs) xs.length x y = 0 then ((flowV xs.length (bondsL gs ts xs) x.toNat y.toNat : Int), flowL gs ts xs x.toNat y.toNat (bondsL gs ts xs).length, 0) else (0, [], fullCode (validAsmB gs ts xs) xs.length x y)
theorem fluxR_no {gs : List Gl} {ts : List Ti} {xs : List Pl} {x y r : Int} (h : fullCode (validAsmB gs ts xs) xs.length x y = r) (h0 : r ≠ 0) : (0, [], r) = fluxR gs ts xs x y := by
  unfold fluxR; rw [h, if_neg h0]
theorem fluxR_yes {gs : List Gl} {ts : List Ti} {xs : List Pl} {x y : Nat} (h : fullCode (validAsmB gs ts xs) xs.length x y = 0) : ((flowV xs.length (bondsL gs ts xs) x y : Int), flowL gs ts xs x y (bondsL gs ts xs).length, 0) = fluxR gs ts xs x y := by
  unfold fluxR; rw [if_pos h]; simp
theorem fluxR_len (gs : List Gl) (ts : List Ti) (xs : List Pl) (x y : Int) : (fluxR gs ts xs x y).2.1.length ≤ 1073741824 := by
  unfold fluxR
  split
  · rename_i h
    obtain ⟨hv, _⟩ := fullCode_zero h
    have := bondsL_len (valid_of hv)
    simp only [flowL_len]
    omega
  · simp
theorem owns_of_rowIs {w : World} {base g n : Nat} {f : Nat → Int} (h : w.rowIs g 2 n (fun i => .int .i64 (f i))) (hb : base ≤ g) (hn : n ≤ maxLen) : w.ownsRow base 2 1 (.slice (some ⟨g, 0, none⟩) n n) n (((List.range n).map f).map (Value.int .i64)) := by
  obtain ⟨c, hh, hs, hc⟩ := h
  refine ⟨by simp, .inr ⟨g, n, c, rfl, hb, hh, Nat.le_refl _, hn, by omega, ?_⟩⟩
  apply List.ext_getElem?
  intro j
  by_cases hj : j < n
  · rw [List.getElem?_take, if_pos (by omega), Array.getElem?_toList, hc j hj]
    simp [hj]
  · rw [List.getElem?_take, if_neg (by omega)]
    rw [List.getElem?_eq_none (by simp; omega)]
set_option maxRecDepth 100000 in
set_option maxHeartbeats 2000000 in
theorem sFlowBetween_any (G T A : Option Addr) (n cg m ct q ca : Nat) (gs : List Gl) (ts : List Ti) (xs : List Pl) (x y : Int) (w : World) (h : SA w G n T m A q gs ts xs) :
    Calls Tryz.prog 13 #[.agg #[.slice G n cg, .slice T m ct], .agg #[.slice A q ca], .int .i64 x, .int .i64 y] w (FluxRes w (fluxR gs ts xs x y)) := by
  have hat := Lib.hid (h.box cg ct ca)
  have hlen := h.A.len
  have hq := h.q
  clear h
  obtain ⟨r, hrE⟩ : ∃ r, fullCode (validAsmB gs ts xs) xs.length x y = r := ⟨_, rfl⟩
  have hrH := Lib.hid hrE
  by_cases hr0 : r = 0
  · subst hr0
    obtain ⟨hval, x, y, rfl, rfl, hx, hy, hxy, h64⟩ := fullCode_zero hrE
    have hV := valid_of hval
    have hbo := Lib.hid (bondsOk hV)
    have hbl := bondsL_len hV
    clear hrE hval
    rw [hlen] at hx hy h64
    go_enter Tryz.func13, Tryz.ntmps13
    go_wp2_with (go_at_call 47; refine (l07Asked_at hat.out _ _ hrH.out).mono ?_; rintro e w1 ⟨rfl, hb1⟩; have hat1 := Lib.hid (hat.out.below hb1); have ca1 := (hb1.cell (p := ⟨w.heap.size + 1, 0, none⟩) (by simp)).trans (show _ = some (Value.slice A q ca) by go_simp); have la1 : w.heap.size + 1 < w1.heap.size := by have := hb1.size; simp at this; omega)
    refine wp_region_ord [(0, .q), (1, .q), (2, .q), (4, .q), (5, .q), (3, .g), (6, .g), (7, .q), (8, .q), (9, .q), (10, .q), (11, .q)] (by kernel_rfl) (by kernel_rfl) ?_
    simp only [pick, List.filterMap_cons, List.filterMap_nil, List.getElem?_toArray, List.getElem?_cons_zero, List.getElem?_cons_succ, Option.map_some]
    repeat (first | ((with_reducible refine wpD_p (fun K hK => ?_)); go_simp; refine hK _ ?_; clear hK K) | ((with_reducible refine wpD_q (fun K hK => ?_)); go_simp; (first | refine hK _ ?_ | (go_bits; refine hK _ ?_) | (go_bits; go_simp; refine hK _ ?_)); clear hK K))
    with_reducible refine wpD_g (fun K hK => ?_)
    go_simp
    refine ((hat1.out.below (by repeat (first | with_reducible exact bl_refl _ | with_reducible assumption | with_reducible refine bl_al ?_ _ | with_reducible refine bl_dr ?_ | with_reducible refine bl_tr ?_ (by assumption) | with_reducible refine bl_set ?_ ?_ _ | with_reducible exact Nat.le_refl _ | omega | (simp only [World.size_alloc, World.size_setCell, World.size_drew] at *; omega) | (dsimp only; omega) | (simp; done) | (simp; omega)))).bonds hV).mono ?_
    rintro e w2 ⟨v, rfl, hrow, hb2⟩
    obtain ⟨B, cb, rfl, hB⟩ := rd_of_row hrow
    refine ⟨_, rfl, hb2, hK _ _ ?_⟩
    clear hK K hrow
    have hBH := Lib.hid hB
    clear hB
    with_reducible refine wpD_g (fun K hK => ?_)
    go_simp
    refine (l07Flow_any q x y B _ cb (bondsL gs ts xs) _ hBH.out (by rw [← hlen]; exact hbo.out) hx hy hxy (by omega) (by omega)).mono ?_
    rintro e w3 ⟨p, gF, vA, uA, rfl, hS⟩
    have hb3 := hS.bw
    have hSH := Lib.hid hS
    have c3 := hS.c3
    have lp := hS.lt
    refine ⟨_, rfl, hb3, hK _ _ ?_⟩
    clear hK K hS
    repeat (first | ((with_reducible refine wpD_p (fun K hK => ?_)); go_simp; refine hK _ ?_; clear hK K) | ((with_reducible refine wpD_q (fun K hK => ?_)); go_simp; (first | refine hK _ ?_ | (go_bits; refine hK _ ?_) | (go_bits; go_simp; refine hK _ ?_)); clear hK K))
    with_reducible refine wpD_nil ?_
    have hbel3 : Below w.heap.size w w3 := by repeat (first | with_reducible exact bl_refl _ | with_reducible assumption | with_reducible refine bl_al ?_ _ | with_reducible refine bl_dr ?_ | with_reducible refine bl_tr ?_ (by assumption) | with_reducible refine bl_set ?_ ?_ _ | with_reducible exact Nat.le_refl _ | omega | (simp only [World.size_alloc, World.size_setCell, World.size_drew] at *; omega) | (dsimp only; omega) | (simp; done) | (simp; omega))
    have hs2 : w.heap.size ≤ w2.heap.size := (show Below w.heap.size w w2 by repeat (first | with_reducible exact bl_refl _ | with_reducible assumption | with_reducible refine bl_al ?_ _ | with_reducible refine bl_dr ?_ | with_reducible refine bl_tr ?_ (by assumption) | with_reducible refine bl_set ?_ ?_ _ | with_reducible exact Nat.le_refl _ | omega | (simp only [World.size_alloc, World.size_setCell, World.size_drew] at *; omega) | (dsimp only; omega) | (simp; done) | (simp; omega))).size
    go_wp2
    refine wp_region_ord [(0, .q), (1, .q), (2, .q), (3, .q), (4, .q), (5, .q), (6, .q), (7, .q)] (by kernel_rfl) (by kernel_rfl) ?_
    simp only [pick, List.filterMap_cons, List.filterMap_nil, List.getElem?_toArray, List.getElem?_cons_zero, List.getElem?_cons_succ, Option.map_some]
    repeat (first | ((with_reducible refine wpD_p (fun K hK => ?_)); go_simp; refine hK _ ?_; clear hK K) | ((with_reducible refine wpD_q (fun K hK => ?_)); go_simp; (first | refine hK _ ?_ | (go_bits; refine hK _ ?_) | (go_bits; go_simp; refine hK _ ?_)); clear hK K))
    with_reducible refine wpD_nil ?_
    go_wp2
    refine bodyPost_ret (v := .tuple #[.int .i64 (flowV q (bondsL gs ts xs) x y : Int), .slice (some ⟨gF, 0, none⟩) (bondsL gs ts xs).length (bondsL gs ts xs).length, .int .i64 0]) (by simp only [results, Tryz.results13]; go_simp) rfl ?_
    refine FluxRes.of (by rw [← hlen]; exact fluxR_yes hrH.out) ?_ (by repeat (first | with_reducible exact bl_refl _ | with_reducible assumption | with_reducible refine bl_al ?_ _ | with_reducible refine bl_dr ?_ | with_reducible refine bl_tr ?_ (by assumption) | with_reducible refine bl_set ?_ ?_ _ | with_reducible exact Nat.le_refl _ | omega | (simp only [World.size_alloc, World.size_setCell, World.size_drew] at *; omega) | (dsimp only; omega) | (simp; done) | (simp; omega)))
    rw [flowL_len]
    have h5 := owns_of_rowIs (base := w.heap.size) hSH.out.fl (Nat.le_trans hs2 hSH.out.gl) (by unfold maxLen; omega)
    unfold flowL lastF
    rw [hlen]
    exact h5
  · have hr0' : (r != 0) = true := by simpa using hr0
    clear hrE
    go_enter Tryz.func13, Tryz.ntmps13
    go_wp2_with (go_at_call 47; refine (l07Asked_at hat.out _ _ hrH.out).mono ?_; rintro e w1 ⟨rfl, hb1⟩)
    refine bodyPost_ret (v := .tuple #[.int .i64 0, .slice none 0 0, .int .i64 r]) (by simp only [results, Tryz.results13]; go_simp) rfl ?_
    exact FluxRes.of (fluxR_no hrH.out hr0) (World.ownsRow_nil _ _ _ _) (by repeat (first | with_reducible exact bl_refl _ | with_reducible assumption | with_reducible refine bl_al ?_ _ | with_reducible refine bl_dr ?_ | with_reducible refine bl_tr ?_ (by assumption) | with_reducible refine bl_set ?_ ?_ _ | with_reducible exact Nat.le_refl _ | omega | (simp only [World.size_alloc, World.size_setCell, World.size_drew] at *; omega) | (dsimp only; omega) | (simp; done) | (simp; omega)))
end Go.Proofs.YtbpmamjphdaggaaGreat
/- Walk: the program's FlowBetween. -/


namespace Go.Proofs.YtbpmamjphdaggaaGreat
open Go.RowKit Go.Shelf
set_option linter.unusedSimpArgs false
set_option linter.unusedVariables false
attribute [local go_sem] BelowBy.cell BelowBy.cell_drew stillUpon givesUpon BelowBy.cell_drew2 BelowBy.cell_drew3

set_option maxRecDepth 100000 in
set_option maxHeartbeats 2000000 in
theorem FlowBetween_any (G T A : Option Addr) (n cg m ct q ca : Nat) (gs : List Gl) (ts : List Ti) (xs : List Pl) (x y : Int) (w : World) (h : SA w G n T m A q gs ts xs) :
    Calls Tryz.prog 16 #[.agg #[.slice G n cg, .slice T m ct], .agg #[.slice A q ca], .int .i64 x, .int .i64 y] w (FluxRes w (fluxR gs ts xs x y)) := by
  obtain ⟨i0, hi, hz0, hz1, hz2⟩ := info_parts infoI
  have hSA := Lib.hid h
  have hlen := h.A.len
  have hq := h.q
  clear h
  obtain ⟨r, hrE⟩ : ∃ r, fullCode (validAsmB gs ts xs) xs.length x y = r := ⟨_, rfl⟩
  have hrH := Lib.hid hrE
  by_cases hr0 : r = 0
  · subst hr0
    obtain ⟨hval, x, y, rfl, rfl, hx, hy, hxy, h64⟩ := fullCode_zero hrE
    have hV := valid_of hval
    have hbo := Lib.hid (bondsOk hV)
    have hbl := bondsL_len hV
    clear hrE hval
    rw [hlen] at hx hy h64
    have hbq := Lib.hid (show BondsOk q (bondsL gs ts xs) by rw [← hlen]; exact hbo.out)
    go_enter Tryz.func16, Tryz.ntmps16
    go_wp2_with (first
      | (go_at_call 53; refine (fullCut_at (hSA.out.below (by repeat (first | with_reducible exact bl_refl _ | with_reducible assumption | with_reducible refine bl_al ?_ _ | with_reducible refine bl_dr ?_ | with_reducible refine bl_tr ?_ (by assumption) | with_reducible refine bl_set ?_ ?_ _ | with_reducible exact Nat.le_refl _ | omega | (simp only [World.size_alloc, World.size_setCell, World.size_drew] at *; omega) | (dsimp only; omega) | (simp; done) | (simp; omega)))) _ _ hrH.out).mono ?_; rintro e w1 ⟨rfl, hb1⟩; have ca1 := (hb1.cell (p := ⟨w.heap.size + 1, 0, none⟩) (by simp)).trans (show _ = some (Value.slice A q ca) by go_simp); have cg1 := (hb1.cell (p := ⟨w.heap.size, 0, none⟩) (by simp; omega)).trans (show _ = some (Value.slice G n cg) by go_simp); have ct1 := (hb1.cell (p := ⟨w.heap.size, 1, none⟩) (by simp; omega)).trans (show _ = some (Value.slice T m ct) by go_simp); have la1 : w.heap.size + 1 < w1.heap.size := (by have := hb1.size; simp at this; omega); have lg1 : w.heap.size < w1.heap.size := (by omega); have hb1H : Below w.heap.size w w1 := (by repeat (first | with_reducible exact bl_refl _ | with_reducible assumption | with_reducible refine bl_al ?_ _ | with_reducible refine bl_dr ?_ | with_reducible refine bl_tr ?_ (by assumption) | with_reducible refine bl_set ?_ ?_ _ | with_reducible exact Nat.le_refl _ | omega | (simp only [World.size_alloc, World.size_setCell, World.size_drew] at *; omega) | (dsimp only; omega) | (simp; done) | (simp; omega))))
      | (go_at_call 54; refine ((hSA.out.below (by repeat (first | with_reducible exact bl_refl _ | with_reducible assumption | with_reducible refine bl_al ?_ _ | with_reducible refine bl_dr ?_ | with_reducible refine bl_tr ?_ (by assumption) | with_reducible refine bl_set ?_ ?_ _ | with_reducible exact Nat.le_refl _ | omega | (simp only [World.size_alloc, World.size_setCell, World.size_drew] at *; omega) | (dsimp only; omega) | (simp; done) | (simp; omega)))).bonds hV).mono ?_; rintro e w2 ⟨v, rfl, hrow, hb2⟩; obtain ⟨B, cb, rfl, hB⟩ := rd_of_row hrow; have hBH := Lib.hid hB; have ca2 := (hb2.cell (p := ⟨w.heap.size + 1, 0, none⟩) la1).trans ca1; have la2 : w.heap.size + 1 < w2.heap.size := Nat.lt_of_lt_of_le la1 hb2.size; clear hrow hB)
      | (go_at_call 55; refine (flowing_any q x y B cb (bondsL gs ts xs) _ hBH.out hbq.out hx hy hxy (by omega) (by omega)).mono ?_; rintro e w3 ⟨p, vR, vF, uR, uF, rfl, hN, hb3⟩; have hNH := Lib.hid hN; clear hN))
    have hbel3 : Below w.heap.size w w3 := by repeat (first | with_reducible exact bl_refl _ | with_reducible assumption | with_reducible refine bl_al ?_ _ | with_reducible refine bl_dr ?_ | with_reducible refine bl_tr ?_ (by assumption) | with_reducible refine bl_set ?_ ?_ _ | with_reducible exact Nat.le_refl _ | omega | (simp only [World.size_alloc, World.size_setCell, World.size_drew] at *; omega) | (dsimp only; omega) | (simp; done) | (simp; omega))
    have hbel3H := Lib.hid hbel3
    have hBH3 := Lib.hid (hBH.out.below RBd.stable hb3)
    have hs3 := hbel3.size
    obtain ⟨N, hNE⟩ : ∃ N, (bondsL gs ts xs).length = N := ⟨_, rfl⟩
    have hNEH := Lib.hid hNE
    rw [hNE] at hBH3 hbl ⊢
    obtain ⟨fv, hfv⟩ : ∃ fv, flowV q (bondsL gs ts xs) x y = fv := ⟨_, rfl⟩
    have hfvH := Lib.hid hfv
    rw [hfv]
    clear hbel3 hBH hb3 hb2 hb1 hb1H ca2 la2 ca1 cg1 ct1 la1 lg1 hNE hfv
    go_loopg [41, 15] N (fun gk i v wr => ∃ k : Nat, k + gk = N ∧ i = .int .i64 (k : Int) ∧ Hid (wr.ownsRow w3.heap.size 2 1 v k ((flowL gs ts xs x y k).map (Value.int .i64))) ∧ Hid (Below w3.heap.size w3 wr))
    case atStart => exact ⟨0, by omega, rfl, Lib.hid (World.ownsRow_nil _ _ _ _), Lib.hid (bl_refl _)⟩
    case round =>
      obtain ⟨k, hk, rfl, hrow, hbw⟩ := hrel
      obtain ⟨A1, c1', rfl⟩ := ownsRow_form hrow.out
      have hsz := hbw.out.size
      by_cases hkn : k < N
      · have hBw := hBH3.out.below RBd.stable hbw.out
        obtain ⟨bb, ob, rfl, hbb, hbc⟩ := hBw.ptr (by omega)
        obtain ⟨e, he⟩ := hBw.get hkn
        obtain ⟨e0, e1, e2⟩ := hbc k e he
        have hea := hbq.out.a k e he
        have heb := hbq.out.b k e he
        have hflow := flowM_at (bondsL_simple gs ts xs) (iterF q (bondsL gs ts xs) x y (flowV q (bondsL gs ts xs) x y)) he (bondsL gs ts xs).length
        rw [hNEH.out, if_pos hkn] at hflow
        have hNw := Lib.hid (hNH.out.below hbw.out)
        obtain ⟨g, cap, g', cap', hvF, c1, l1, l2, _, hbg, hx5, hown5, hcols⟩ := hNw.out.F.at hea
        have c2 := hcols e.b heb
        rw [hNEH.out, hflow] at c2
        have c0 := hNw.out.flow
        rw [hvF] at c0
        have l0 := hNw.out.lt
        obtain ⟨fk, hfk⟩ : ∃ fk, iterF q (bondsL gs ts xs) x y (flowV q (bondsL gs ts xs) x y) k = fk := ⟨_, rfl⟩
        rw [hfk] at c2
        have hfkH := Lib.hid (show lastF gs ts xs x y k = fk by unfold lastF; rw [hlen, hfk])
        clear hbc he hBw hvF hx5 hown5 hcols hflow hfk
        go_wp2
        refine wp_region_ord [(0, .q), (1, .q), (2, .q), (3, .q), (4, .q), (5, .q), (6, .q), (7, .q), (8, .q), (9, .q), (10, .q), (11, .q), (12, .q), (13, .g), (14, .b), (15, .q)] (by kernel_rfl) (by kernel_rfl) ?_
        simp only [pick, List.filterMap_cons, List.filterMap_nil, List.getElem?_toArray, List.getElem?_cons_zero, List.getElem?_cons_succ, Option.map_some]
        repeat (first | ((with_reducible refine wpD_p (fun K hK => ?_)); go_simp; refine hK _ ?_; clear hK K) | ((with_reducible refine wpD_q (fun K hK => ?_)); go_simp; (first | refine hK _ ?_ | (go_bits; refine hK _ ?_) | (go_bits; go_simp; refine hK _ ?_)); clear hK K))
        with_reducible refine wpD_g (fun K hK => ?_)
        go_simp
        refine ⟨Grew.of_alloc _, hK _ _ ?_⟩
        clear hK K
        have hb1 : Below wr.heap.size wr ((wr.alloc (Obj.cells #[.int .i64 (e.a : Int), .int .i64 (e.b : Int), .int .i64 e.s] 101)).alloc (Obj.cells #[.int .i64 fk] 2)).drew := by repeat (first | with_reducible exact bl_refl _ | with_reducible assumption | with_reducible refine bl_al ?_ _ | with_reducible refine bl_dr ?_ | with_reducible refine bl_tr ?_ (by assumption) | with_reducible refine bl_set ?_ ?_ _ | with_reducible exact Nat.le_refl _ | omega | (simp only [World.size_alloc, World.size_setCell, World.size_drew] at *; omega) | (dsimp only; omega) | (simp; done) | (simp; omega))
        have hb1H := Lib.hid hb1
        clear hb1
        refine wpD_append rfl _ _ 31 rfl w3.heap.size 2 i0 (.int .i64 0) 1 8 Tryz.underlying31 hi hz0 hz1 hz2 rfl (by decide) (.slice A1 k c1') k ((flowL gs ts xs x y k).map (Value.int .i64)) (by go_simp) (ownsRow_below hrow.out hb1H.out) ⟨wr.heap.size + 1, 0, none⟩ 1 1 [.int .i64 fk] (by go_simp) rfl ?hnews (fun x hx => by simp at hx; subst hx; rfl) (by unfold maxLen; omega) (by omega) (by simp; omega) ?_
        case hnews =>
          have := cell_one_new (wr.alloc (Obj.cells #[.int .i64 (e.a : Int), .int .i64 (e.b : Int), .int .i64 e.s] 101)) (.int .i64 fk) 2
          simpa using this
        intro v5 w5 hown hgrow
        obtain ⟨A5, c5, rfl⟩ := ownsRow_form hown
        have hownH := Lib.hid hown
        have hbw5 : Below w3.heap.size w3 w5 := (hbw.out.trans (hb1H.out.mono hsz)).grown hgrow (by simp; omega) (fun g e => (hrow.out.lt g e).1)
        have hbw5H := Lib.hid hbw5
        clear hown hgrow hbw5
        repeat (first | ((with_reducible refine wpD_p (fun K hK => ?_)); go_simp; refine hK _ ?_; clear hK K) | ((with_reducible refine wpD_q (fun K hK => ?_)); go_simp; (first | refine hK _ ?_ | (go_bits; refine hK _ ?_) | (go_bits; go_simp; refine hK _ ?_)); clear hK K))
        with_reducible refine wpD_nil ?_
        go_wp2
        go_roundg (N - (k + 1))
        case measure => omega
        case rel =>
          refine ⟨k + 1, by omega, by go_num, Lib.hid ?_, hbw5H⟩
          rw [flowL_succ, hfkH.out, List.map_append]
          exact hownH.out
      · obtain rfl : k = N := by omega
        go_wp2
        refine bodyPost_ret (v := .tuple #[.int .i64 (fv : Int), .slice A1 k c1', .int .i64 0]) (by simp only [results, Tryz.results16]; go_simp) rfl ?_
        refine FluxRes.of (by have := fluxR_yes hrH.out; rw [hlen, hfvH.out, hNEH.out] at this; exact this) ?_ (hbel3H.out.trans (hbw.out.mono hs3))
        rw [flowL_len]
        exact ownsRow_base hrow.out hs3
  · have hr0' : (r != 0) = true := by simpa using hr0
    clear hrE
    go_enter Tryz.func16, Tryz.ntmps16
    go_wp2_with (go_at_call 53; refine (fullCut_at (hSA.out.below (by repeat (first | with_reducible exact bl_refl _ | with_reducible assumption | with_reducible refine bl_al ?_ _ | with_reducible refine bl_dr ?_ | with_reducible refine bl_tr ?_ (by assumption) | with_reducible refine bl_set ?_ ?_ _ | with_reducible exact Nat.le_refl _ | omega | (simp only [World.size_alloc, World.size_setCell, World.size_drew] at *; omega) | (dsimp only; omega) | (simp; done) | (simp; omega)))) _ _ hrH.out).mono ?_; rintro e w1 ⟨rfl, hb1⟩)
    refine bodyPost_ret (v := .tuple #[.int .i64 0, .slice none 0 0, .int .i64 r]) (by simp only [results, Tryz.results16]; go_simp) rfl ?_
    exact FluxRes.of (fluxR_no hrH.out hr0) (World.ownsRow_nil _ _ _ _) (by repeat (first | with_reducible exact bl_refl _ | with_reducible assumption | with_reducible refine bl_al ?_ _ | with_reducible refine bl_dr ?_ | with_reducible refine bl_tr ?_ (by assumption) | with_reducible refine bl_set ?_ ?_ _ | with_reducible exact Nat.le_refl _ | omega | (simp only [World.size_alloc, World.size_setCell, World.size_drew] at *; omega) | (dsimp only; omega) | (simp; done) | (simp; omega)))
end Go.Proofs.YtbpmamjphdaggaaGreat
