import Derived.Test.YtkppijcjmhkkkaaGAP
import Derived.Test.YtkppijcjmhkkkaaGAO
import Derived.Test.YtkppijcjmhkkkaaGAN
import Derived.Test.YtkppijcjmhkkkaaGAJ
import Derived.Test.YtkppijcjmhkkkaaGAT
set_option linter.unusedSimpArgs false
set_option linter.unusedVariables false
/- Plain: the holes of a shape. -/


namespace Go.Proofs.Ytkppijcjmhkkkaa
open Go.RowKit
theorem ptA_of {ps : List Pt} {k : Nat} {e : Pt} (h : ps[k]? = some e) : ptA ps k = e := by unfold ptA; rw [h]; rfl
/-- the box holds the points, and each side of it has one -/
theorem bxN_in (ps : List Pt) : ∀ (j k : Nat), k < j ∨ k = 0 → ((bxN ps j).lx ≤ (ptA ps k).x ∧ (ptA ps k).x ≤ (bxN ps j).hx) ∧ (bxN ps j).ly ≤ (ptA ps k).y ∧ (ptA ps k).y ≤ (bxN ps j).hy
  | 0, k, h => by
    obtain rfl : k = 0 := by omega
    simp [bxN]
  | j + 1, k, h => by
    have ih := bxN_in ps j
    simp only [bxN]
    rcases Nat.lt_or_ge k j with h1 | h1
    · have := ih k (.inl h1)
      unfold mn mx
      refine ⟨⟨?_, ?_⟩, ?_, ?_⟩ <;> (split <;> omega)
    · rcases h with h | rfl
      · obtain rfl : k = j := by omega
        unfold mn mx
        refine ⟨⟨?_, ?_⟩, ?_, ?_⟩ <;> (split <;> omega)
      · have := ih 0 (.inr rfl)
        unfold mn mx
        refine ⟨⟨?_, ?_⟩, ?_, ?_⟩ <;> (split <;> omega)
theorem bxN_at (ps : List Pt) : ∀ (j : Nat), (∃ k, (k < j ∨ k = 0) ∧ (ptA ps k).x = (bxN ps j).lx) ∧ (∃ k, (k < j ∨ k = 0) ∧ (ptA ps k).x = (bxN ps j).hx) ∧ (∃ k, (k < j ∨ k = 0) ∧ (ptA ps k).y = (bxN ps j).ly) ∧ (∃ k, (k < j ∨ k = 0) ∧ (ptA ps k).y = (bxN ps j).hy)
  | 0 => ⟨⟨0, .inr rfl, rfl⟩, ⟨0, .inr rfl, rfl⟩, ⟨0, .inr rfl, rfl⟩, ⟨0, .inr rfl, rfl⟩⟩
  | j + 1 => by
    obtain ⟨⟨a, a1, a2⟩, ⟨b, b1, b2⟩, ⟨c, c1, c2⟩, ⟨d, d1, d2⟩⟩ := bxN_at ps j
    simp only [bxN]
    unfold mn mx
    refine ⟨?_, ?_, ?_, ?_⟩
    · split
      · exact ⟨j, .inl (by omega), rfl⟩
      · exact ⟨a, by omega, a2⟩
    · split
      · exact ⟨j, .inl (by omega), rfl⟩
      · exact ⟨b, by omega, b2⟩
    · split
      · exact ⟨j, .inl (by omega), rfl⟩
      · exact ⟨c, by omega, c2⟩
    · split
      · exact ⟨j, .inl (by omega), rfl⟩
      · exact ⟨d, by omega, d2⟩
/-- the least rectangle of a shape -/
def boxB (ps : List Pt) : Bnd := bxN ps ps.length
theorem boxB_in {ps : List Pt} {p : Pt} (h : p ∈ ps) : ((boxB ps).lx ≤ p.x ∧ p.x ≤ (boxB ps).hx) ∧ (boxB ps).ly ≤ p.y ∧ p.y ≤ (boxB ps).hy := by
  obtain ⟨k, hk⟩ := List.mem_iff_getElem?.1 h
  have := bxN_in ps ps.length k (.inl (lt_of_get hk))
  rw [ptA_of hk] at this
  exact this
theorem boxB_rng {ps : List Pt} (hS : Shp ps) (hn : 0 < ps.length) : (-60 ≤ (boxB ps).lx ∧ (boxB ps).lx ≤ (boxB ps).hx ∧ (boxB ps).hx ≤ 60) ∧ (-60 ≤ (boxB ps).ly ∧ (boxB ps).ly ≤ (boxB ps).hy ∧ (boxB ps).hy ≤ 60) := by
  have hp : ∀ k, k < ps.length ∨ k = 0 → (-60 ≤ (ptA ps k).x ∧ (ptA ps k).x ≤ 60) ∧ (-60 ≤ (ptA ps k).y ∧ (ptA ps k).y ≤ 60) := fun k hk => by
    obtain ⟨e, he⟩ : ∃ e, ps[k]? = some e := ⟨_, List.getElem?_eq_getElem (by omega)⟩
    rw [ptA_of he]
    exact hS.pt k e he
  obtain ⟨⟨a, a1, a2⟩, ⟨b, b1, b2⟩, ⟨c, c1, c2⟩, ⟨d, d1, d2⟩⟩ := bxN_at ps ps.length
  have h1 := hp a a1
  have h2 := hp b b1
  have h3 := hp c c1
  have h4 := hp d d1
  have h5 := bxN_in ps ps.length 0 (.inr rfl)
  unfold boxB
  omega
def wdB (ps : List Pt) : Nat := ((boxB ps).hx + 1 - (boxB ps).lx).toNat
def htB (ps : List Pt) : Nat := ((boxB ps).hy + 1 - (boxB ps).ly).toNat
/-- all points of the rectangle -/
def rectB (ps : List Pt) : List Pt := rectP (boxB ps).lx (boxB ps).ly (wdB ps) (htB ps)
/-- those that are not in the shape -/
def freeB (ps : List Pt) : List Pt := (rectB ps).filter fun p => !decide (p ∈ ps)
/-- on the rectangle's edge -/
def edgeB (ps : List Pt) (p : Pt) : Bool := p.x == (boxB ps).lx || p.x == (boxB ps).hx || p.y == (boxB ps).ly || p.y == (boxB ps).hy
def holesB (ps : List Pt) : List (List Pt) := (partsP (freeB ps)).filter fun l => !(l.any (edgeB ps))
section
variable {ps : List Pt} (hS : Shp ps) (hn : 0 < ps.length)
include hS hn
theorem wdB_eq : (boxB ps).hx + 1 = (boxB ps).lx + (wdB ps : Int) ∧ (boxB ps).hy + 1 = (boxB ps).ly + (htB ps : Int) ∧ 1 ≤ wdB ps ∧ wdB ps ≤ 121 ∧ 1 ≤ htB ps ∧ htB ps ≤ 121 := by
  have := boxB_rng hS hn
  unfold wdB htB
  omega
theorem rectB_mem {p : Pt} : p ∈ rectB ps ↔ ((boxB ps).lx ≤ p.x ∧ p.x ≤ (boxB ps).hx) ∧ (boxB ps).ly ≤ p.y ∧ p.y ≤ (boxB ps).hy := by
  have := wdB_eq hS hn
  unfold rectB
  rw [rectP_mem]
  omega
theorem rectB_len : (rectB ps).length = htB ps * wdB ps ∧ (rectB ps).length ≤ 14641 ∧ 0 < (rectB ps).length := by
  obtain ⟨_, _, h1, h2, h3, h4⟩ := wdB_eq hS hn
  have h5 : (rectB ps).length = htB ps * wdB ps := rectP_len _ _ _ _
  exact ⟨h5, by rw [h5]; exact Nat.le_trans (Nat.mul_le_mul h4 h2) (by decide), by rw [h5]; exact Nat.mul_pos h3 h1⟩
theorem freeB_shp : Shp (freeB ps) := by
  refine Shp.of_sorted ((rectP_sorted _ _ _ _).filter _) (fun p hp => ?_)
  have := boxB_rng hS hn
  have h2 := (rectB_mem hS hn).1 (List.mem_filter.1 hp).1
  omega
theorem freeB_len : (freeB ps).length ≤ 14641 := Nat.le_trans (List.length_filter_le _ _) (rectB_len hS hn).2.1
/-- the reference's test of a part -/
theorem edge_box {l : List Pt} (hl : l ∈ partsP (freeB ps)) : (!(l.any (edgeB ps))) = decide (((boxB ps).lx < (bxN l l.length).lx ∧ (boxB ps).ly < (bxN l l.length).ly) ∧ (bxN l l.length).hx < (boxB ps).hx ∧ (bxN l l.length).hy < (boxB ps).hy) := by
  have hpos := partsP_pos hl
  have hmem : ∀ k, k < l.length ∨ k = 0 → ((boxB ps).lx ≤ (ptA l k).x ∧ (ptA l k).x ≤ (boxB ps).hx) ∧ (boxB ps).ly ≤ (ptA l k).y ∧ (ptA l k).y ≤ (boxB ps).hy := fun k hk => by
    obtain ⟨e, he⟩ : ∃ e, l[k]? = some e := ⟨_, List.getElem?_eq_getElem (by omega)⟩
    rw [ptA_of he]
    exact (rectB_mem hS hn).1 (List.mem_filter.1 ((partsP_mem hl).1 e (List.mem_of_getElem? he))).1
  obtain ⟨⟨a, a1, a2⟩, ⟨b, b1, b2⟩, ⟨c, c1, c2⟩, ⟨d, d1, d2⟩⟩ := bxN_at l l.length
  have hin := bxN_in l l.length
  cases hany : l.any (edgeB ps)
  · rw [List.any_eq_false] at hany
    have hne : ∀ k, k < l.length ∨ k = 0 → (ptA l k).x ≠ (boxB ps).lx ∧ (ptA l k).x ≠ (boxB ps).hx ∧ (ptA l k).y ≠ (boxB ps).ly ∧ (ptA l k).y ≠ (boxB ps).hy := fun k hk => by
      obtain ⟨e, he⟩ : ∃ e, l[k]? = some e := ⟨_, List.getElem?_eq_getElem (by omega)⟩
      have := hany e (List.mem_of_getElem? he)
      unfold edgeB at this
      simp at this
      rw [ptA_of he]
      exact ⟨this.1.1.1, this.1.1.2, this.1.2, this.2⟩
    have n1 := hne a a1
    have n2 := hne b b1
    have n3 := hne c c1
    have n4 := hne d d1
    have m1 := hmem a a1
    have m2 := hmem b b1
    have m3 := hmem c c1
    have m4 := hmem d d1
    exact (decide_eq_true (by omega)).symm
  · rw [List.any_eq_true] at hany
    obtain ⟨e, he, hee⟩ := hany
    obtain ⟨k, hk⟩ := List.mem_iff_getElem?.1 he
    have h1 := hin k (.inl (lt_of_get hk))
    rw [ptA_of hk] at h1
    unfold edgeB at hee
    simp only [Bool.or_eq_true, beq_iff_eq] at hee
    exact (decide_eq_false (by omega)).symm
end
theorem holesB_few {ps : List Pt} (hS : Shp ps) (hn : 0 < ps.length) : (holesB ps).length ≤ 14641 ∧ ∀ l ∈ holesB ps, l.length ≤ 14641 := by
  have h1 := freeB_len hS hn
  refine ⟨Nat.le_trans (List.length_filter_le _ _) (Nat.le_trans (partsP_len _) h1), fun l hl => ?_⟩
  exact Nat.le_trans (partsP_mem (List.mem_filter.1 hl).1).2 h1
end Go.Proofs.Ytkppijcjmhkkkaa
/- Walks: a row of rows of points from which those are struck out that a closure names. -/


namespace Go.Proofs.Ytkppijcjmhkkkaa
open Go.RowKit Go.Shelf
attribute [local go_sem] BelowBy.cell BelowBy.cell_drew stillUpon givesUpon BelowBy.cell_drew2 BelowBy.cell_drew3

/-- a row's slice and what it reads as -/
abbrev SlR := Value × List Pt
def TellsR (g : Nat) (w : World) (f : FuncId) (caps : Array Value) (del : SlR → Bool) (bs : List SlR) : Prop :=
  ∀ W (e : SlR), Gb g w W → e ∈ bs → Calls Try.prog f (#[e.1] ++ caps) W fun e' w' => e' = .returned (.bool (del e)) ∧ Below W.heap.size W w'
theorem IndexFuncR_zero (A : Option Addr) (c : Nat) (fv : Value) (w : World) :
    Calls Try.prog 71 #[.slice A 0 c, fv] w fun e w' => e = .returned (.int .i64 (-1)) ∧ w = w' := by
  go_enter Try.func71, Try.ntmps71
  go_wp2
  refine wp_loop_rounds 1 ?_
  rw [rounds_succ]
  go_wp2
  go_ret
  exact ⟨rfl, rfl⟩
theorem DeleteFuncR_zero (A : Option Addr) (c : Nat) (fv : Value) (w : World) :
    Calls Try.prog 57 #[.slice A 0 c, fv] w fun e w' => e = .returned (.slice A 0 c) ∧ w = w' := by
  go_enter Try.func57, Try.ntmps57
  go_wp2_with (go_at_call 71; refine (IndexFuncR_zero _ _ _ _).mono ?_; rintro e _ ⟨rfl, rfl⟩)
  go_ret
  exact ⟨rfl, rfl⟩
set_option maxHeartbeats 1000000 in
theorem IndexFuncR_any (g g0 : Nat) (f : FuncId) (caps : Array Value) (eg : ∀ args w, (callFunc f args).run Try.prog w = .ok (.enter f args) w) (del : SlR → Bool) (n c : Nat) (bs : List SlR) (w : World) (hl : bs.length = n) (hg : g0 < w.heap.size) (hc : ∀ (j : Nat) (e : SlR), bs[j]? = some e → w.cell? ⟨g0, j, none⟩ = some e.1) (hn : n ≤ 100000) (hC : TellsR g w f caps del bs) :
    Calls Try.prog 71 #[.slice (some ⟨g0, 0, none⟩) n c, .func (.func f) #[] caps] w (FirstN w n (delAtG del bs)) := by
  have hCH := Lib.hid hC
  have hcH := Lib.hid hc
  have hlH := Lib.hid hl
  clear hC hc hl
  go_enter Try.func71, Try.ntmps71
  go_wp2
  go_loopg [8] n (fun r x wr => ∃ k : Nat, k + r = n ∧ x = .int .i64 (k : Int) ∧ Hid (∀ j, j < k → delAtG del bs j = false) ∧ Below w.heap.size w wr)
  case atStart => exact ⟨0, by omega, rfl, Lib.hid (fun j hj => by omega), bl_refl _⟩
  case round =>
    obtain ⟨k, hk, rfl, hno, hbw⟩ := hrel
    have hgw : g0 < wr.heap.size := Nat.lt_of_lt_of_le hg hbw.size
    by_cases hkn : k < n
    · obtain ⟨e, he⟩ : ∃ e, bs[k]? = some e := ⟨_, List.getElem?_eq_getElem (by rw [hlH.out]; exact hkn)⟩
      have c0 := (hbw.cell (p := ⟨g0, k, none⟩) hg).trans (hcH.out k e he)
      have hd := delAtG_eq (del := del) he
      have hem := Lib.hid (List.mem_of_getElem? he)
      cases hv : del e
      · have hdH := Lib.hid (hd.trans hv)
        have hvH := Lib.hid hv
        clear he hd hv
        go_wp2_with fail
        refine (hCH.out _ e (Gb.of_below hbw) hem.out).mono ?_
        rw [hvH.out]
        rintro e' w1 ⟨rfl, hb1⟩
        go_wp2
        go_roundg (n - (k + 1))
        case measure => omega
        case rel => exact ⟨k + 1, by omega, by go_num, Lib.hid (fun j hj => by
          rcases Nat.lt_succ_iff_lt_or_eq.1 hj with hj | rfl
          · exact hno.out j hj
          · exact hdH.out), bl_tr hbw hb1⟩
      · have hdH := Lib.hid (hd.trans hv)
        have hvH := Lib.hid hv
        clear he hd hv
        go_wp2_with fail
        refine (hCH.out _ e (Gb.of_below hbw) hem.out).mono ?_
        rw [hvH.out]
        rintro e' w1 ⟨rfl, hb1⟩
        go_wp2
        go_ret
        exact ⟨Or.inr ⟨k, hkn, rfl, hdH.out, hno.out⟩, bl_tr hbw hb1⟩
    · obtain rfl : k = n := by omega
      go_wp2
      go_ret
      exact ⟨Or.inl ⟨rfl, hno.out⟩, hbw⟩
theorem zero1Q (n : Nat) : ∀ u ∈ (Builtin.zeroCells #[Value.slice none 0 0] n).toList, u.oneCell' = true := by
  intro u hu
  simp only [Builtin.zeroCells, Array.toList_map, List.mem_map] at hu
  obtain ⟨i, _, rfl⟩ := hu
  simp [Nat.mod_one]
  rfl
/-- what is left -/
def DelRw (base g : Nat) (w : World) (l : List SlR) (e : Ending) (w' : World) : Prop := ∃ c, e = .returned (.slice (some ⟨g, 0, none⟩) l.length c) ∧ w'.ownsRow base 24 1 (.slice (some ⟨g, 0, none⟩) l.length c) l.length (l.map (·.1)) ∧ Gb g w w'
theorem DelRw.of {base g n : Nat} {w w' : World} {l : List SlR} {c : Nat} (hn : n = l.length) (h : w'.ownsRow base 24 1 (.slice (some ⟨g, 0, none⟩) n c) n (l.map (·.1))) (hb : Gb g w w') : DelRw base g w l (.returned (.slice (some ⟨g, 0, none⟩) n c)) w' := by
  subst hn; exact ⟨c, rfl, h, hb⟩
set_option maxRecDepth 100000 in
set_option maxHeartbeats 4000000 in
theorem DeleteFuncR_any (base g cap : Nat) (f : FuncId) (caps : Array Value) (eg : ∀ args w, (callFunc f args).run Try.prog w = .ok (.enter f args) w) (del : SlR → Bool) (bs : List SlR) (w : World) (hrow : w.ownsRow base 24 1 (.slice (some ⟨g, 0, none⟩) bs.length cap) bs.length (bs.map (·.1))) (hn : bs.length ≤ 100000) (hC : TellsR g w f caps del bs) (hfm : ∀ e ∈ bs, ∃ A m c, e.1 = Value.slice A m c) :
    Calls Try.prog 57 #[.slice (some ⟨g, 0, none⟩) bs.length cap, .func (.func f) #[] caps] w (DelRw base g w (keepG del bs bs.length)) := by
  obtain ⟨n, hnn⟩ : ∃ n, bs.length = n := ⟨_, rfl⟩
  rw [hnn] at hn hrow
  rw [hnn]
  have hnnH := Lib.hid hnn
  have hCH := Lib.hid hC
  have hfmH := Lib.hid hfm
  rcases hrow.2 with ⟨h0, h0'⟩ | ⟨g', cap', cur, hv, hb, hh, hnc, hm, hs, ht⟩
  · cases h0
  obtain ⟨rfl, rfl⟩ : g = g' ∧ cap = cap' := by injection hv with a1 a2 a3; injection a1 with a1; injection a1 with a1; exact ⟨a1, a3⟩
  have hgl : g < w.heap.size := (Array.getElem?_eq_some_iff.1 hh).1
  have hcells : ∀ (j : Nat) (e : SlR), bs[j]? = some e → w.cell? ⟨g, j, none⟩ = some e.1 := fun j e he => by
    have := hrow.cellAt j (by have := lt_of_get he; omega)
    rw [this, List.getElem?_map, he]; rfl
  have hcellsH := Lib.hid hcells
  clear hnn hC hfm hcells
  go_enter Try.func57, Try.ntmps57
  go_wp2_with fail
  refine (IndexFuncR_any g g f caps eg del n cap bs _ hnnH.out hgl hcellsH.out hn hCH.out).mono ?_
  rintro e w1 ⟨(⟨rfl, hall⟩ | ⟨k, hkn, rfl, hdk, hall⟩), hb1⟩
  · have hallH := Lib.hid hall
    have rdH := Lib.hid (ownsRow_below hrow hb1)
    have hK := keepG_all (del := del) (bs := bs) (k := n) hall
    rw [List.take_of_length_le (by rw [hnnH.out]; exact Nat.le_refl _)] at hK
    have hKH := Lib.hid hK
    have hb1H := Lib.hid hb1
    clear hall hrow hK hb1 hh hs ht
    go_wp2
    go_ret
    rw [hKH.out]
    exact DelRw.of hnnH.out.symm rdH.out (Gb.of_below hb1H.out)
  · have hk1 : ¬ ((k : Int) = -1) := by omega
    have hk1' : ((k : Int) == -1) = false := by simp
    have hh1 := (hb1.block g hgl).trans hh
    have hrow1 : w1.rowIs g 24 (cap * 1) (fun i => cur.getD i undef) := by
      refine ⟨cur, hh1, hs, fun i hi => ?_⟩
      have : i < cur.size := by omega
      simp [this]
    have hget : ∀ q (b : SlR), bs[q]? = some b → q < n → cur.getD q undef = b.1 := by
      intro q b hq hqn
      have x0 : (bs.map (·.1))[q]? = some b.1 := by rw [List.getElem?_map, hq]; rfl
      rw [← ht, List.getElem?_take_of_lt (by omega)] at x0
      simp only [Array.getElem?_toList] at x0
      simp [Array.getD_eq_getD_getElem?, x0]
    have hkeep0 := keepG_all (del := del) (bs := bs) (k := k) hall
    obtain ⟨ek, hek⟩ : ∃ e, bs[k]? = some e := ⟨_, List.getElem?_eq_getElem (by rw [hnnH.out]; exact hkn)⟩
    have hkeep1 := keepG_succ_no (del := del) hek (by rw [← delAtG_eq (del := del) hek]; exact hdk)
    have hkl : k = (keepG del bs (k + 1)).length := by rw [hkeep1, hkeep0]; simp; rw [hnnH.out]; omega
    obtain ⟨F0, hF0⟩ : ∃ F : Nat → Value, ∀ q (b : SlR), bs[q]? = some b → F q = b.1 := ⟨fun q => match bs[q]? with | some b => b.1 | none => undef, fun q b h => by simp only [h]⟩
    have hst : Hid (k = (keepG del bs (k + 1)).length ∧ (∀ q (b : SlR), (keepG del bs (k + 1))[q]? = some b → F0 q = b.1) ∧ (∀ q (b : SlR), k + 1 ≤ q → bs[q]? = some b → F0 q = b.1)) := by
      refine Lib.hid ⟨hkl, fun q b hq => ?_, fun q b _ hq => hF0 q b hq⟩
      rw [hkeep1, hkeep0, List.getElem?_take] at hq
      split at hq
      · exact hF0 q b hq
      · cases hq
    have hf0 : Hid (∀ q, q < n → (fun i => cur.getD i undef) q = F0 q) := Lib.hid fun q hq => by
      obtain ⟨b, hqb⟩ : ∃ b, bs[q]? = some b := ⟨_, List.getElem?_eq_getElem (by rw [hnnH.out]; exact hq)⟩
      rw [hF0 q b hqb]
      exact hget q b hqb hq
    have hB1 := Lib.hid (Gb.of_below (g := g) hb1)
    have hbg := hb
    have hmO := Lib.hid hm
    clear hkl hF0 hget hkeep0 hkeep1 hek hall hrow hh hh1 hs ht hb1 hdk
    go_wp2
    go_loopg [5, 6] (n - (k + 1)) (fun r x y wr => ∃ (i j : Nat) (F : Nat → Value) (f' : Nat → Value), j + r = n ∧ i < j ∧ x = .int .i64 (i : Int) ∧ y = .int .i64 (j : Int) ∧ Hid (i = (keepG del bs j).length ∧ (∀ q (b : SlR), (keepG del bs j)[q]? = some b → F q = b.1) ∧ (∀ q (b : SlR), j ≤ q → bs[q]? = some b → F q = b.1)) ∧ wr.rowIs g 24 (cap * 1) f' ∧ Hid (∀ q, q < n → f' q = F q) ∧ Hid (Gb g w wr))
    case atStart => exact ⟨k, k + 1, F0, _, by omega, by omega, rfl, by go_num, hst, hrow1, hf0, hB1⟩
    case round =>
      obtain ⟨i, j, F, f', hj, hij, rfl, rfl, hst', hrw, hf, hbw⟩ := hrel
      clear hst hf0 hrow1
      have hgw : g < wr.heap.size := hrw.lt
      by_cases hlt : j < n
      · obtain ⟨e, he⟩ : ∃ e, bs[j]? = some e := ⟨_, List.getElem?_eq_getElem (by rw [hnnH.out]; exact hlt)⟩
        have hFj := hst'.out.2.2 j e (Nat.le_refl _) he
        have v0 := hf.out j hlt
        rw [hFj] at v0
        have c0 := hrw.cell (i := j) (by omega)
        rw [v0] at c0
        obtain ⟨Ae, me, ce, heq⟩ := hfmH.out e (List.mem_of_getElem? he)
        rw [heq] at c0
        have heqH := Lib.hid heq
        have heH := Lib.hid he
        have hrwH := Lib.hid hrw
        clear v0 hFj he hrw heq
        cases hcd : del e
        · have hnx := Lib.hid (keepG_succ_yes heH.out hcd)
          have hcdH := Lib.hid hcd
          clear hcd
          go_wp2_with fail
          have hcall := hCH.out wr e hbw.out (List.mem_of_getElem? heH.out)
          rw [heqH.out, hcdH.out] at hcall
          refine hcall.mono ?_
          clear hcall
          rintro e' w2 ⟨rfl, hb2⟩
          have hrw2 := hrwH.out.of_block (hb2.block g hgw)
          have d0 := hrw2.cell (i := i) (by omega)
          have k0 := hrw2.frozen i
          have hB2H := Lib.hid (hbw.out.below hb2)
          have hs2 := hb2.size
          have hrw2H := Lib.hid hrw2
          have hin : i < n := by omega
          clear c0 hb2 hrw2
          go_wp2
          go_roundg (n - (j + 1))
          case measure => omega
          case rel => exact ⟨i + 1, j + 1, fun q => if q = i then .slice Ae me ce else F q, _, by omega, by omega, by go_num, by go_num, Lib.hid ⟨by
              rw [hnx.out, List.length_append, ← hst'.out.1]; rfl, fun q b hq => by
              rw [hnx.out] at hq
              have hil := hst'.out.1
              rcases Nat.lt_or_ge q i with hqi | hqi
              · rw [List.getElem?_append_left (by omega)] at hq
                show (if q = i then Value.slice Ae me ce else F q) = b.1
                rw [if_neg (by omega)]; exact hst'.out.2.1 q b hq
              · rw [List.getElem?_append_right (by omega)] at hq
                have : q - (keepG del bs j).length = 0 := by
                  rcases Nat.eq_zero_or_pos (q - (keepG del bs j).length) with h0 | h0
                  · exact h0
                  · rw [List.getElem?_eq_none (by simp; omega)] at hq; cases hq
                rw [this] at hq
                show (if q = i then Value.slice Ae me ce else F q) = b.1
                rw [if_pos (by omega)]
                simp at hq
                subst hq
                exact heqH.out.symm, fun q b hq hb => by
              show (if q = i then Value.slice Ae me ce else F q) = b.1
              rw [if_neg (by omega)]; exact hst'.out.2.2 q b (by omega) hb⟩, hrw2H.out.set i _, Lib.hid (fun q hq => by
              have u0 := hf.out q hq
              by_cases hqi : q = i
              · subst hqi
                simp
              · rw [if_neg (by omega)]
                show f' q = (if q = i then Value.slice Ae me ce else F q)
                rw [if_neg hqi]
                exact u0), Lib.hid (hB2H.out.set i _)⟩
        · have hnx := Lib.hid (keepG_succ_no heH.out hcd)
          have hcdH := Lib.hid hcd
          clear hcd
          go_wp2_with fail
          have hcall := hCH.out wr e hbw.out (List.mem_of_getElem? heH.out)
          rw [heqH.out, hcdH.out] at hcall
          refine hcall.mono ?_
          clear hcall
          rintro e' w2 ⟨rfl, hb2⟩
          have hrw2 := hrwH.out.of_block (hb2.block g hgw)
          have hB2H := Lib.hid (hbw.out.below hb2)
          have hrw2H := Lib.hid hrw2
          clear c0 hb2 hrw2
          go_wp2
          go_roundg (n - (j + 1))
          case measure => omega
          case rel => exact ⟨i, j + 1, F, _, by omega, by omega, rfl, by go_num, Lib.hid ⟨by rw [hnx.out]; exact hst'.out.1, fun q b hq => by rw [hnx.out] at hq; exact hst'.out.2.1 q b hq, fun q b hq hb => hst'.out.2.2 q b (by omega) hb⟩, hrw2H.out, hf, hB2H⟩
      · obtain rfl : j = n := by omega
        have hcl := fun (ty : TypeId) => run_clear_rowsQ (P := Try.prog) wr 32 24 ty _ Try.underlying32 Try.zeroValue24 g i (j - i) (cap - i) (by omega) (fun q hq => by rw [hrw.cell (i := i + q) (by simp [Value.cells] at hq; omega)]; rfl) (fun q hq => hrw.frozen _) (zero1Q _)
        have hci : ¬ cap = i := by omega
        go_wp2
        go_ret
        obtain ⟨zs, hzs⟩ : ∃ zs, (Builtin.zeroCells #[Value.slice none 0 0] (j - i)).toList = zs := ⟨_, rfl⟩
        rw [hzs]
        have hrw3 := Go.rowIs_setCells zs i wr f' hrw
        have hil := hst'.out.1
        have hfin := hst'.out.2.1
        refine DelRw.of hil (owns_of_rowQ hrw3 rfl hbg (by omega) hmO.out (by rw [List.length_map, hil, Nat.mul_one]) (fun q u hq => ?_)) (hbw.out.sets i zs)
        rw [List.getElem?_map, Option.map_eq_some_iff] at hq
        obtain ⟨e, he, rfl⟩ := hq
        have hqlt := lt_of_get he
        have hFq := hfin q e he
        have u0 := hf.out q (by omega)
        rw [hFq] at u0
        rw [hrw3.cell (i := q) (by omega), if_neg (by omega), u0]
end Go.Proofs.Ytkppijcjmhkkkaa
/- Words: some of the rows that a call has made; such rows struck out. -/



namespace Go.Proofs.Ytkppijcjmhkkkaa
open Go.RowKit Go.Shelf
theorem ownsRow_gb {g : Nat} {w w' : World} {base : Nat} {e : TypeId} {size : Nat} {v : Value} {n : Nat} {xs : List Value} (h : w.ownsRow base e size v n xs) (hg : Gb g w w') (hne : v.ownBlock ≠ some g) : w'.ownsRow base e size v n xs := h.kept hg (.inr hne)
theorem Own2.sub {w w' : World} {base g : Nat} {T E : TypeId} {size : Nat} {v v' : Value} {us : List Value} {rows : List (List Value)} (h : Own2 w base T E size v us rows) (hv : v.ownBlock = some g) {bs : List (Value × List Value)} (hbs : bs.Sublist (us.zip rows))
    (hout : w'.ownsRow base T 1 v' bs.length (bs.map (·.1))) (hv' : v'.ownBlock = some g) (hg : Gb g w w') : Own2 w' base T E size v' (bs.map (·.1)) (bs.map (·.2)) := by
  have hin : ∀ (k : Nat) (a : Value × List Value), bs[k]? = some a → ∃ i, us[i]? = some a.1 ∧ rows[i]? = some a.2 := fun k a ha => by
    have hm := hbs.subset (List.mem_of_getElem? ha)
    obtain ⟨i, hi⟩ := List.mem_iff_getElem?.1 hm
    rw [List.getElem?_zip_eq_some] at hi
    exact ⟨i, hi⟩
  have hpw : (us.zip rows).Pairwise fun a b => ∀ x, a.1.ownBlock = some x → b.1.ownBlock ≠ some x := by
    rw [List.pairwise_iff_getElem]
    intro i j hi hj hij x hx hy
    have ei := List.getElem?_eq_getElem hi
    have ej := List.getElem?_eq_getElem hj
    rw [List.getElem?_zip_eq_some] at ei ej
    have := h.apart i j _ _ x ei.1 ej.1 hx hy
    omega
  have hpb := hpw.sublist hbs
  have hlen : (bs.map (·.1)).length = bs.length := List.length_map _
  refine ⟨by rw [hlen]; exact hout, by rw [List.length_map, List.length_map], fun k u r hu hr => ?_, fun j k u u' x hj hk hx hx' => ?_, fun k u x hu hx hvx => ?_⟩
  · rw [List.getElem?_map, Option.map_eq_some_iff] at hu hr
    obtain ⟨a, ha, rfl⟩ := hu
    obtain ⟨b, hb, rfl⟩ := hr
    rw [ha] at hb
    injection hb with hb
    subst hb
    obtain ⟨i, h1, h2⟩ := hin k a ha
    obtain ⟨m, hm⟩ := h.inner i _ _ h1 h2
    refine ⟨m, ownsRow_gb hm hg fun e => ?_⟩
    exact h.off i _ g h1 e hv
  · rw [List.getElem?_map, Option.map_eq_some_iff] at hj hk
    obtain ⟨a, ha, rfl⟩ := hj
    obtain ⟨b, hb, rfl⟩ := hk
    have la := lt_of_get ha
    have lb := lt_of_get hb
    rw [List.getElem?_eq_getElem la] at ha
    rw [List.getElem?_eq_getElem lb] at hb
    injection ha with ha
    injection hb with hb
    rw [List.pairwise_iff_getElem] at hpb
    rcases Nat.lt_trichotomy j k with hlt | heq | hlt
    · exact absurd hx' (hb ▸ hpb j k la lb hlt x (ha ▸ hx))
    · exact heq
    · exact absurd hx (ha ▸ hpb k j lb la hlt x (hb ▸ hx'))
  · rw [List.getElem?_map, Option.map_eq_some_iff] at hu
    obtain ⟨a, ha, rfl⟩ := hu
    obtain ⟨i, h1, h2⟩ := hin k a ha
    rw [hv'] at hvx
    injection hvx with hvx
    subst hvx
    exact h.off i _ _ h1 hx hv
/-- slices and what they read as -/
def prsR (us : List Value) (P : List (List Pt)) : List SlR := us.zip P
theorem prsR_fst {us : List Value} {P : List (List Pt)} (h : us.length = P.length) : (prsR us P).map (·.1) = us := List.map_fst_zip (by omega)
theorem prsR_snd {us : List Value} {P : List (List Pt)} (h : us.length = P.length) : (prsR us P).map (·.2) = P := List.map_snd_zip (by omega)
theorem prsR_len {us : List Value} {P : List (List Pt)} (h : us.length = P.length) : (prsR us P).length = P.length := by unfold prsR; rw [List.length_zip]; omega
theorem prsR_keep {us : List Value} {P : List (List Pt)} (h : us.length = P.length) (p : List Pt → Bool) : ((prsR us P).filter fun e => p e.2).map (·.2) = P.filter p := by
  have : (prsR us P).filter (fun e => p e.2) = (prsR us P).filter (p ∘ (·.2)) := rfl
  rw [this, ← List.filter_map, prsR_snd h]
theorem Own2.struck {w w' : World} {base g n n' c c' : Nat} {us : List Value} {P : List (List Pt)} (h : Own2 w base 24 49 2 (.slice (some ⟨g, 0, none⟩) n c) us (P.map ptCells)) (p : List Pt → Bool)
    (hn : ((prsR us P).filter fun e => p e.2).length = n') (hout : w'.ownsRow base 24 1 (.slice (some ⟨g, 0, none⟩) n' c') n' (((prsR us P).filter fun e => p e.2).map (·.1))) (hg : Gb g w w') :
    Own2 w' base 24 49 2 (.slice (some ⟨g, 0, none⟩) n' c') (((prsR us P).filter fun e => p e.2).map (·.1)) ((P.filter p).map ptCells) := by
  subst hn
  have hul : us.length = P.length := by rw [h.len, List.length_map]
  have h2 := h.sub (g := g) (w' := w') (v' := .slice (some ⟨g, 0, none⟩) ((prsR us P).filter fun e => p e.2).length c') rfl (bs := ((prsR us P).filter fun e => p e.2).map fun e => (e.1, ptCells e.2)) ?_ ?_ rfl hg
  · rw [List.map_map, List.map_map] at h2
    rw [← prsR_keep hul p, List.map_map]
    exact h2
  · have : us.zip (P.map ptCells) = (prsR us P).map fun e => (e.1, ptCells e.2) := by
      unfold prsR
      rw [List.zip_map_right]
      rfl
    rw [this]
    exact List.Sublist.map _ List.filter_sublist
  · rw [List.map_map, List.length_map]
    exact hout
end Go.Proofs.Ytkppijcjmhkkkaa
