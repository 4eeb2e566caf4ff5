/- Walks: who leads to a point; the greatest flow; codes. -/
import Derived.Test.YtmhgjgclclnmaaaGreatF6
namespace Go.Proofs.YtmhgjgclclnmaaaGreat
open Go.RowKit Go.Shelf
set_option linter.unusedSimpArgs false
set_option linter.unusedVariables false
attribute [local go_sem] BelowBy.cell BelowBy.cell_drew stillUpon givesUpon BelowBy.cell_drew2 BelowBy.cell_drew3

noncomputable def leadL (n : Nat) (E : Nat → Nat → Bool) (y m : Nat) : List Nat := (List.range m).filter fun u => (distTo n E y u).isSome
theorem leadL_yes {n : Nat} {E : Nat → Nat → Bool} {y m : Nat} (h : (distTo n E y m).isSome = true) : leadL n E y (m + 1) = leadL n E y m ++ [m] := by
  unfold leadL; rw [List.range_succ, List.filter_append]; simp [h]
theorem leadL_no {n : Nat} {E : Nat → Nat → Bool} {y m : Nat} (h : (distTo n E y m).isSome = false) : leadL n E y (m + 1) = leadL n E y m := by
  unfold leadL; rw [List.range_succ, List.filter_append]; simp [h]
theorem leadL_len (n : Nat) (E : Nat → Nat → Bool) (y m : Nat) : (leadL n E y m).length ≤ m := by
  have := List.length_filter_le (fun u => (distTo n E y u).isSome) (List.range m)
  simpa [leadL] using this
theorem wayTo_isSome (n : Nat) (E : Nat → Nat → Bool) (x y : Nat) : (wayTo n E x y).isSome = (distTo n E y x).isSome := by
  unfold wayTo
  cases distTo n E y x <;> rfl
def OwnI (w : World) (l : List Nat) (e : Ending) (w' : World) : Prop := ∃ v, e = .returned v ∧ w'.ownsRow w.heap.size 2 1 v l.length ((intsI l).map (Value.int .i64)) ∧ Below w.heap.size w w'
set_option maxRecDepth 100000 in
set_option maxHeartbeats 2000000 in
theorem leadingTo_any (base p n y : Nat) (R F : Nat → Nat → Int) (vR vF : Value) (uR uF : List Value) (w : World) (h : Net w base p n R F vR vF uR uF) (hy : y < n) (hn : n ≤ 100000) :
    Calls Tryz.prog 52 #[.pointer (some ⟨p, 0, none⟩), .int .i64 (y : Int)] w (OwnI w (leadL n (freeE R F) y n)) := by
  obtain ⟨i1, hi', hz0', hz1', hz2'⟩ := info_parts infoI
  have hN := Lib.hid h
  obtain ⟨A0, c0, hv⟩ := Own2.form h.R h.R.len
  have hr := h.room
  rw [hv] at hr
  have hl := h.lt
  clear h hv
  obtain ⟨E, hE⟩ : ∃ E, freeE R F = E := ⟨_, rfl⟩
  rw [hE]
  have hEH := Lib.hid hE
  clear hE
  have hqn := fun W A k c => run_neq_slice_nil_any (P := Tryz.prog) W 169 3 A k c 0 0 Tryz.underlying169
  go_enter Tryz.func52, Tryz.ntmps52
  go_wp2
  go_loopg [12, 5] n (fun gk i v wr => ∃ k : Nat, k + gk = n ∧ i = .int .i64 (k : Int) ∧ Hid (wr.ownsRow w.heap.size 2 1 v (leadL n E y k).length ((intsI (leadL n E y k)).map (Value.int .i64))) ∧ Hid (Below w.heap.size w wr))
  case atStart => exact ⟨0, by omega, rfl, Lib.hid (World.ownsRow_nil _ _ _ _), Lib.hid (bl_refl _)⟩
  case round =>
    obtain ⟨k, hk, rfl, hrow, hbw⟩ := hrel
    obtain ⟨A1, c1, rfl⟩ := ownsRow_form hrow.out
    have hsz := hbw.out.size
    by_cases hkn : k < n
    · cases hw : wayTo n E k y with
      | none =>
        have hd := Lib.hid (show (distTo n E y k).isSome = false by rw [← wayTo_isSome, hw]; rfl)
        have hwH := Lib.hid hw
        clear hw
        go_wp2_with (go_at_call 102; refine (way_any base p n k y R F vR vF uR uF _ (hN.out.below hbw.out) hkn hy hn).mono ?_; rintro e w2 ⟨hb2, he⟩; rw [hEH.out, hwH.out] at he; have he2 : e = .returned (.slice none 0 0) := he; subst he2; have hb2H := Lib.hid hb2; clear hb2 he)
        go_roundg (n - (k + 1))
        case measure => omega
        case rel => exact ⟨k + 1, by omega, by go_num, Lib.hid (by rw [leadL_no hd.out]; exact ownsRow_below hrow.out hb2H.out), Lib.hid (hbw.out.trans (hb2H.out.mono hsz))⟩
      | some W =>
        have hd := Lib.hid (show (distTo n E y k).isSome = true by rw [← wayTo_isSome, hw]; rfl)
        have hwH := Lib.hid hw
        have hll := leadL_len n E y k
        obtain ⟨m, hm⟩ : ∃ m, (leadL n E y k).length = m := ⟨_, rfl⟩
        rw [hm] at hrow hll ⊢
        have hmH := Lib.hid hm
        clear hw hm
        go_wp2_with (first
          | (go_at_call 102; refine (way_any base p n k y R F vR vF uR uF _ (hN.out.below hbw.out) hkn hy hn).mono ?_; rintro e w2 ⟨hb2, he⟩; rw [hEH.out, hwH.out] at he; obtain ⟨gW, cW, rfl, hrowW⟩ := he; have hb2H := Lib.hid hb2; have hs2 := hb2.size; have hrow2 := Lib.hid (ownsRow_below hrow.out hb2); clear hb2 hrowW)
          | (at_builtin; refine wpList_append_own _ rfl _ _ 33 rfl w.heap.size 2 i1 (.int .i64 0) 1 8 Tryz.underlying33 hi' hz0' hz1' hz2' rfl (by decide) _ m ((intsI (leadL n E y k)).map (Value.int .i64)) rfl (hrow2.out.alloc _) ⟨w2.heap.size, 0, none⟩ 1 1 [.int .i64 (k : Int)] rfl rfl (cell_one_new _ _ _) (fun x hx => by simp at hx; subst hx; rfl) (by unfold maxLen; omega) (by omega) (by simp; omega) ?_; intro u3 w3 hown3 hgrow3 _; have hown3H := Lib.hid hown3; have hgrow3H := Lib.hid hgrow3; clear hown3 hgrow3))
        go_roundg (n - (k + 1))
        case measure => omega
        case rel =>
          refine ⟨k + 1, by omega, by go_num, Lib.hid ?_, Lib.hid ?_⟩
          · rw [leadL_yes hd.out, List.length_append, hmH.out]
            have h3 := hown3H.out
            simpa [intsI] using h3
          · exact (hbw.out.trans (hb2H.out.mono hsz)).trans (below_app (by omega) (fun g e => (hrow2.out.lt g e).1) hgrow3H.out)
    · obtain rfl : k = n := by omega
      go_wp2
      go_ret
      exact ⟨_, rfl, hrow.out, hbw.out⟩
/-- the network with the greatest flow -/
def FlowingRes (w : World) (n : Nat) (bs : List Bd) (x y : Nat) (e : Ending) (w' : World) : Prop := ∃ p vR vF uR uF, e = .returned (.tuple #[.pointer (some ⟨p, 0, none⟩), .int .i64 (flowV n bs x y : Int)]) ∧
  Net w' w.heap.size p n (roomM bs bs.length) (flowM bs (iterF n bs x y (flowV n bs x y)) bs.length) vR vF uR uF ∧ Below w.heap.size w w'
theorem flowV_le {n : Nat} {bs : List Bd} (hb : BondsOk n bs) {x y : Nat} (hx : x < n) (hxy : x ≠ y) : flowV n bs x y ≤ 8 * bs.length := by
  obtain ⟨K, h1, h2⟩ := exists_least (exists_stop hb hx hxy)
  rw [flowV_eq h1 h2]
  have := iterF_left hb hx hxy (k := K) h2
  omega
set_option maxRecDepth 100000 in
set_option maxHeartbeats 1000000 in
theorem flowing_any (n x y : Nat) (B : Option Addr) (c : Nat) (bs : List Bd) (w : World) (hB : RdSl 3 RBd w B bs.length bs) (hb : BondsOk n bs) (hx : x < n) (hy : y < n) (hxy : x ≠ y) (hn : n ≤ 100000) (hm : bs.length ≤ 100000) :
    Calls Tryz.prog 46 #[.int .i64 (n : Int), .slice B bs.length c, .int .i64 (x : Int), .int .i64 (y : Int)] w (FlowingRes w n bs x y) := by
  have hBH := Lib.hid hB
  have hbH := Lib.hid hb
  have hle := Lib.hid (flowV_le hb hx hxy)
  obtain ⟨m, hmE⟩ : ∃ m, bs.length = m := ⟨_, rfl⟩
  have hmH := Lib.hid hmE
  rw [hmE] at hm ⊢
  clear hB hb hmE
  go_enter Tryz.func46, Tryz.ntmps46
  go_wp2_with (go_at_call 94; refine (networkOf_any n B m c bs _ (by rw [← hmH.out]; exact hBH.out) hbH.out hn (by omega)).mono ?_; rintro e w1 ⟨p, vR, vF, uR, uF, rfl, hnet, hb1⟩; have hnetH := Lib.hid hnet; have hb1H := Lib.hid hb1; have hs1 := hb1.size; clear hnet hb1)
  refine (send_any w.heap.size p n x y 1099511627776 bs vR vF uR uF _ (by rw [hmH.out]; exact hnetH.out) hbH.out hx hy hxy hn (by rw [hmH.out]; omega) (Nat.le_refl _) hs1).mono ?_
  rintro e w2 ⟨rfl, hnet2, hb2⟩
  have hmin : min (flowV n bs x y) 1099511627776 = flowV n bs x y := by have := hle.out; have := hmH.out; omega
  rw [hmin] at hnet2 ⊢
  have hnet2H := Lib.hid hnet2
  have hb2H := Lib.hid hb2
  clear hnet2 hb2 hmin
  go_wp2
  go_ret2
  exact ⟨p, vR, vF, uR, uF, rfl, hnet2H.out, hb1H.out.trans hb2H.out⟩
def fullCode (v : Bool) (q : Nat) (x y : Int) : Int := if cutCodeI v q x y ≠ 0 then cutCodeI v q x y else if 64 < q then 4 else 0
end Go.Proofs.YtmhgjgclclnmaaaGreat
