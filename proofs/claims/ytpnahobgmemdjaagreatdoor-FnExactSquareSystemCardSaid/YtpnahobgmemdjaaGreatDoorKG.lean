import Derived.Test.YtpnahobgmemdjaaGreatDoorTs0
import Derived.Test.YtpnahobgmemdjaaGreatDoorKC
import Derived.RangeFuncNested
import Derived.RangeFuncBound
import Derived.RangeFuncCalls
import Derived.RangeFuncLeaves
import Derived.RangeFuncBox
import Derived.Shelf.Abstract
import Derived.Shelf.RegionOpen
import Derived.OwnWalkIn
import Derived.TacticsInMore
import Derived.LoopNIn
import Derived.LoopIn
set_option linter.unusedSimpArgs false
set_option linter.unusedVariables false
/- Walks: the program's counter tiles of a square. -/


namespace Go.Proofs.YtpnahobgmemdjaaGreatDoor
open Go.RowKit Go.Shelf
attribute [local go_sem] BelowBy.cell BelowBy.cell_drew stillUpon givesUpon

theorem wrapT {n : Int} (h1 : -9000000000000000000 ≤ n) (h2 : n ≤ 9000000000000000000) : IntKind.i64.wrap n = n := by
  simp [IntKind.wrap, IntKind.bits, IntKind.signed]; omega
theorem catT {wd d nm : ByteArray} (h : wd ++ d = nm) (hz : wd.size + d.size ≤ 1000) : ∀ W : World, (Op.stringOp .add wd d).run Tryz.prog W = .ok (.string nm) W := fun W => by
  rw [← h]; exact run_string_add_sum (P := Tryz.prog) (w := W) wd d (by omega)
/-- a side's word with the prefix -/
def preQ (P s : ByteArray) : ByteArray := if s = ⟨#[45]⟩ ∨ s = ⟨#[102, 105, 108, 108]⟩ then s else P ++ s
def srcO : Option Cd → ByteArray
  | none => ⟨#[45]⟩
  | some c => if c.1 = 0 then wdG c.2.2 else ⟨#[102, 105, 108, 108]⟩
def nmO : Option Cd → ByteArray
  | none => ⟨#[45]⟩
  | some c => gqn c
theorem wdG_not (j : Nat) : wdG j ≠ ⟨#[45]⟩ ∧ wdG j ≠ ⟨#[102, 105, 108, 108]⟩ := by
  unfold wdG; split <;> decide
theorem preQ_w (p j : Nat) : preQ (prfQ p) (wdG j) = gqn (0, p, j) := by
  unfold preQ
  rw [if_neg (fun h => by rcases h with h | h; exact (wdG_not j).1 h; exact (wdG_not j).2 h)]
  rfl
theorem preQ_o {p : Nat} {o : Option Cd} (h : ∀ c, o = some c → (c.1 = 0 ∧ c.2.1 = p) ∨ c = (1, 0, 0)) : preQ (prfQ p) (srcO o) = nmO o := by
  cases o with
  | none => rfl
  | some c =>
    obtain ⟨k, x, y⟩ := c
    rcases h _ rfl with ⟨h1, h2⟩ | h1
    · simp only at h1 h2
      subst h1 h2
      exact preQ_w x y
    · cases h1; rfl
theorem cntS_o (p j : Nat) : ∀ o ∈ cntS p j, ∀ c, o = some c → (c.1 = 0 ∧ c.2.1 = p) ∨ c = (1, 0, 0) := by
  intro o ho c hc
  subst hc
  unfold cntS at ho
  split at ho
  all_goals
    simp only [List.mem_cons, Option.some.injEq, List.not_mem_nil, or_false] at ho
    rcases ho with h | h | h | h
    all_goals first | (subst h; simp) | (cases h)
theorem sdQ_nm {gs : List Gl} (hd : numG gs ⟨#[45]⟩ = 0) (o : Option Cd) : (numG gs (nmO o) : Int) = sdQ gs o := by
  cases o with
  | none => show ((numG gs ⟨#[45]⟩ : Nat) : Int) = 0; rw [hd]; rfl
  | some c => rfl
theorem trn_map {α β : Type} (f : α → β) (p : Nat) (l : List α) : (trnQ p l).map f = trnQ p (l.map f) := by
  unfold trnQ
  by_cases h : p = 0
  · rw [if_pos h, if_pos h]
  · rw [if_neg h, if_neg h]
    match l with
    | [a, b, c, d] => rfl
    | [] => rfl
    | [_] => rfl
    | [_, _] => rfl
    | [_, _, _] => rfl
    | _ :: _ :: _ :: _ :: _ :: _ => rfl
theorem add_cnt {gs : List Gl} (ts : List Ti) (hd : numG gs ⟨#[45]⟩ = 0) (p j : Nat) (l : List ByteArray) (hl : l = (cntS p j).map srcO) (nm : ByteArray) (hn : prfQ p ++ wdT j = nm) :
    addT (gs, ts) nm (trnQ p (l.map (preQ (prfQ p)))) = (gs, ts ++ [tlQ gs (0, p, j) (trnQ p (cntS p j))]) := by
  subst hl hn
  unfold addT tlQ sidesG
  have h1 : ((cntS p j).map srcO).map (preQ (prfQ p)) = (cntS p j).map nmO := by
    rw [List.map_map]
    exact List.map_congr_left fun o ho => preQ_o (cntS_o p j o ho)
  have h2 : ((cntS p j).map nmO).map (fun s => ((numG gs s : Nat) : Int)) = (cntS p j).map (sdQ gs) := by
    rw [List.map_map]
    exact List.map_congr_left fun o _ => sdQ_nm hd o
  simp only
  rw [h1, trn_map (fun s => ((numG gs s : Nat) : Int)), h2, trn_map]
  rfl
/-- four words in a block -/
def Row4 (w : World) (g : Nat) (f : Nat → ByteArray) : Prop := w.rowIs g 9 4 (fun j => .string (f j))
theorem gby_set (w : World) (g i : Nat) (u : Value) : w.grownBy (w.setCell ⟨g, i, none⟩ u) (some g) :=
  ⟨rfl, rfl, rfl, by simp, fun k hk hne => Below.heap_setCell _ _ _ _ (fun e => hne (by rw [e]))⟩
set_option maxRecDepth 100000 in
set_option maxHeartbeats 4000000 in
theorem transposed_any (g : Nat) (s0 s1 s2 s3 : ByteArray) (w : World) (hg : g < w.heap.size) (c0 : w.cell? ⟨g, 0, none⟩ = some (.string s0)) (c1 : w.cell? ⟨g, 1, none⟩ = some (.string s1)) (c2 : w.cell? ⟨g, 2, none⟩ = some (.string s2)) (c3 : w.cell? ⟨g, 3, none⟩ = some (.string s3)) :
    Calls Tryz.prog 35 #[.slice (some ⟨g, 0, none⟩) 4 4] w fun e w' => e = .returned (.slice (some ⟨w.heap.size, 0, none⟩) 4 4) ∧ w' = w.drew.alloc (Obj.cells #[.string s1, .string s0, .string s3, .string s2] 9) := by
  go_enter Tryz.func35, Tryz.ntmps35
  go_wp2_with fail
  refine wp_region_ord [(0, .q), (1, .q), (2, .q), (3, .q), (4, .q), (5, .q), (6, .q), (7, .q), (8, .q), (9, .q), (10, .q), (11, .q), (12, .g), (13, .q)] (by kernel_rfl) (by kernel_rfl) ?_
  simp only [pick, List.filterMap_cons, List.filterMap_nil, List.getElem?_toArray, List.getElem?_cons_zero, List.getElem?_cons_succ, Option.map_some]
  repeat (first | ((with_reducible refine wpD_p (fun K hK => ?_)); go_simp; refine hK _ ?_; clear hK K) | ((with_reducible refine wpD_q (fun K hK => ?_)); go_simp; (first | refine hK _ ?_ | (go_bits; refine hK _ ?_) | (go_bits; go_simp; refine hK _ ?_)); clear hK K))
  with_reducible refine wpD_g (fun K hK => ?_)
  go_simp
  refine ⟨Grew.of_alloc _, hK _ _ ?_⟩
  clear hK K
  repeat (first | ((with_reducible refine wpD_p (fun K hK => ?_)); go_simp; refine hK _ ?_; clear hK K) | ((with_reducible refine wpD_q (fun K hK => ?_)); go_simp; (first | refine hK _ ?_ | (go_bits; refine hK _ ?_) | (go_bits; go_simp; refine hK _ ?_)); clear hK K))
  with_reducible refine wpD_nil ?_
  go_wp2
  go_ret
  exact ⟨rfl, rfl⟩
theorem rd4T (w : World) (s0 s1 s2 s3 : ByteArray) (T : TypeId) : RdSl 1 RNm (w.alloc (.cells #[.string s0, .string s1, .string s2, .string s3] T)) (some ⟨w.heap.size, 0, none⟩) 4 [s0, s1, s2, s3] := by
  refine ⟨rfl, fun _ => ⟨w.heap.size, 0, rfl, by simp, fun j hj => ?_⟩⟩
  have hb := (Bx.made w [.string s0, .string s1, .string s2, .string s3] T).cell j (.string ([s0, s1, s2, s3][j])) (by
    rw [show ([.string s0, .string s1, .string s2, .string s3] : List Value) = [s0, s1, s2, s3].map Value.string from rfl, List.getElem?_map, List.getElem?_eq_getElem hj]; rfl)
  show World.cell? _ ⟨w.heap.size, 0 + j * 1, none⟩ = _
  rw [Nat.zero_add, Nat.mul_one]; exact hb
set_option maxRecDepth 100000 in
set_option maxHeartbeats 8000000 in
theorem addC_any (b bm g bp bt bx p : Nat) (st : List Gl × List Ti) (P nm n2 s0 s1 s2 s3 : ByteArray) (tr : Bool) (w : World) (hP : prfQ p = P) (htr : decide (p ≠ 0) = tr) (hn2 : P ++ nm = n2) (h : MkrX w b bm st (fun q => q = g)) (hg : w.heap[g]? = some (Obj.cells #[.string s0, .string s1, .string s2, .string s3] 9)) (hbg : b < g)
    (cp : w.cell? ⟨bp, 0, none⟩ = some (.string P)) (ct : w.cell? ⟨bt, 0, none⟩ = some (.bool tr)) (cx : w.cell? ⟨bx, 0, none⟩ = some (.pointer (some ⟨b, 0, none⟩))) (lp : bp < g ∧ bt < g ∧ bx < g)
    (hz : P.size ≤ 1 ∧ nm.size ≤ 9 ∧ s0.size ≤ 9 ∧ s1.size ≤ 9 ∧ s2.size ≤ 9 ∧ s3.size ≤ 9) (hgl : st.1.length ≤ 1000) (htl : st.2.length ≤ 1000) :
    Calls Tryz.prog 34 #[.string nm, .slice (some ⟨g, 0, none⟩) 4 4, .pointer (some ⟨bp, 0, none⟩), .pointer (some ⟨bt, 0, none⟩), .pointer (some ⟨bx, 0, none⟩)] w fun e w' =>
      e = .returned (.tuple #[]) ∧ Mkr w' b bm (addT st n2 (trnQ p ([s0, s1, s2, s3].map (preQ P)))) ∧ (∀ k T M f, w.rowIs k T M f → T ∉ MkTs → k < g → w'.heap[k]? = w.heap[k]?) ∧ Below bm w w' := by
  have hH := Lib.hid h
  have hlt := h.lt
  have hgs : g < w.heap.size := (Array.getElem?_eq_some_iff.1 hg).1
  obtain ⟨F, hF⟩ : ∃ F : Nat → ByteArray, F = fun j => match j with | 0 => s0 | 1 => s1 | 2 => s2 | _ => s3 := ⟨_, rfl⟩
  have f0 : F 0 = s0 := by subst hF; rfl
  have f1 : F 1 = s1 := by subst hF; rfl
  have f2 : F 2 = s2 := by subst hF; rfl
  have f3 : F 3 = s3 := by subst hF; rfl
  have fz : ∀ j, j < 4 → (F j).size ≤ 9 := by
    intro j hj
    rcases (show j = 0 ∨ j = 1 ∨ j = 2 ∨ j = 3 by omega) with rfl | rfl | rfl | rfl
    · rw [f0]; exact hz.2.2.1
    · rw [f1]; exact hz.2.2.2.1
    · rw [f2]; exact hz.2.2.2.2.1
    · rw [f3]; exact hz.2.2.2.2.2
  have hr0 : w.rowIs g 9 4 (fun j => .string (F j)) := by
    refine ⟨_, hg, rfl, fun i hi => ?_⟩
    rcases (show i = 0 ∨ i = 1 ∨ i = 2 ∨ i = 3 by omega) with rfl | rfl | rfl | rfl
    · simp [f0]
    · simp [f1]
    · simp [f2]
    · simp [f3]
  have fH := Lib.hid (show F 0 = s0 ∧ F 1 = s1 ∧ F 2 = s2 ∧ F 3 = s3 from ⟨f0, f1, f2, f3⟩)
  have fzH := Lib.hid fz
  clear h hF f0 f1 f2 f3 fz hg
  go_enter Tryz.func34, Tryz.ntmps34
  go_wp2
  go_loopg [11, 7, 8] 4 (fun gk i v u wr => ∃ k : Nat, k + gk = 4 ∧ i = .int .i64 (k : Int) ∧ Hid (∃ f, wr.rowIs g 9 4 f ∧ ∀ j, j < 4 → f j = .string (if j < k then preQ P (F j) else F j)) ∧ Hid (w.grownBy wr (some g)) ∧ Hid (wr.heap.size = w.heap.size))
  case atStart => exact ⟨0, by omega, rfl, Lib.hid ⟨_, hr0, fun j hj => by simp⟩, Lib.hid ⟨rfl, rfl, rfl, Nat.le_refl _, fun _ _ _ => rfl⟩, Lib.hid rfl⟩
  case round =>
    obtain ⟨k, hk, rfl, hrow, hgb, hsz⟩ := hrel
    obtain ⟨f, hr, hf⟩ := hrow.out
    have hfH := Lib.hid hf
    have hrH := Lib.hid hr
    have lgw : g < wr.heap.size := hr.lt
    have q0 := (World.cell?_of_block (a := ⟨bp, 0, none⟩) (hgb.out.block bp (by omega) (fun e => by injection e with e; omega))).trans cp
    have q1 := (World.cell?_of_block (a := ⟨bt, 0, none⟩) (hgb.out.block bt (by omega) (fun e => by injection e with e; omega))).trans ct
    have q2 := (World.cell?_of_block (a := ⟨bx, 0, none⟩) (hgb.out.block bx (by omega) (fun e => by injection e with e; omega))).trans cx
    have lq0 : bp < wr.heap.size := by omega
    have lq1 : bt < wr.heap.size := by omega
    have lq2 : bx < wr.heap.size := by omega
    by_cases hk4 : k < 4
    · have hkI : (k : Int) < 4 := by omega
      have hc := hr.cell (i := k) (by omega)
      rw [hf k hk4, if_neg (Nat.lt_irrefl k)] at hc
      have hfz := hr.frozen k
      obtain ⟨s, hs⟩ : ∃ s, F k = s := ⟨_, rfl⟩
      rw [hs] at hc
      have hsH := Lib.hid hs
      have hz9 : s.size ≤ 9 := by rw [← hs]; exact fzH.out k hk4
      clear hr hf hrow hs
      by_cases h1 : s = ⟨#[45]⟩
      · subst h1
        go_wp2
        go_roundg (4 - (k + 1))
        case measure => omega
        case rel => exact ⟨k + 1, by omega, by go_num, Lib.hid ⟨f, hrH.out, fun j hj => by
          rw [hfH.out j hj]
          by_cases hjk : j = k
          · subst hjk; rw [if_neg (Nat.lt_irrefl _), if_pos (Nat.lt_succ_self _), hsH.out]; rfl
          · by_cases h2 : j < k
            · rw [if_pos h2, if_pos (by omega)]
            · rw [if_neg h2, if_neg (by omega)]⟩, hgb, hsz⟩
      by_cases h2 : s = ⟨#[102, 105, 108, 108]⟩
      · subst h2
        go_wp2
        go_roundg (4 - (k + 1))
        case measure => omega
        case rel => exact ⟨k + 1, by omega, by go_num, Lib.hid ⟨f, hrH.out, fun j hj => by
          rw [hfH.out j hj]
          by_cases hjk : j = k
          · subst hjk; rw [if_neg (Nat.lt_irrefl _), if_pos (Nat.lt_succ_self _), hsH.out]; rfl
          · by_cases h2 : j < k
            · rw [if_pos h2, if_pos (by omega)]
            · rw [if_neg h2, if_neg (by omega)]⟩, hgb, hsz⟩
      · have hb1 : (s.toList == (⟨#[45]⟩ : ByteArray).toList) = false := (Lib.bytes_beq_false_iff s ⟨#[45]⟩).2 h1
        have hb2 : (s.toList == (⟨#[102, 105, 108, 108]⟩ : ByteArray).toList) = false := (Lib.bytes_beq_false_iff s ⟨#[102, 105, 108, 108]⟩).2 h2
        rw [show (⟨#[45]⟩ : ByteArray).toList = [45] by decide +kernel] at hb1
        rw [show (⟨#[102, 105, 108, 108]⟩ : ByteArray).toList = [102, 105, 108, 108] by decide +kernel] at hb2
        have hb3 : (s.toList != [45]) = true := by rw [bne, hb1]; rfl
        have hb4 : (s.toList != [102, 105, 108, 108]) = true := by rw [bne, hb2]; rfl
        obtain ⟨x, hx⟩ : ∃ x, P ++ s = x := ⟨_, rfl⟩
        have hcat := catT hx (by omega)
        have hpre := Lib.hid (show preQ P s = x by unfold preQ; rw [if_neg (fun h => by rcases h with h | h; exact h1 h; exact h2 h)]; exact hx)
        clear hx
        go_wp2
        go_roundg (4 - (k + 1))
        case measure => omega
        case rel => exact ⟨k + 1, by omega, by go_num, Lib.hid ⟨_, hrH.out.set k _, fun j hj => by
          by_cases hjk : j = k
          · subst hjk; rw [if_pos rfl, if_pos (Nat.lt_succ_self _), hsH.out, hpre.out]
          · rw [if_neg hjk, hfH.out j hj]
            by_cases h2 : j < k
            · rw [if_pos h2, if_pos (by omega)]
            · rw [if_neg h2, if_neg (by omega)]⟩, Lib.hid (hgb.out.trans (gby_set _ _ _ _)), Lib.hid (by simpa using hsz.out)⟩
    · obtain rfl : k = 4 := by omega
      have e0 := (hr.cell (i := 0) (by omega)).trans (by rw [hf 0 (by omega), if_pos (by omega), fH.out.1])
      have e1 := (hr.cell (i := 1) (by omega)).trans (by rw [hf 1 (by omega), if_pos (by omega), fH.out.2.1])
      have e2 := (hr.cell (i := 2) (by omega)).trans (by rw [hf 2 (by omega), if_pos (by omega), fH.out.2.2.1])
      have e3 := (hr.cell (i := 3) (by omega)).trans (by rw [hf 3 (by omega), if_pos (by omega), fH.out.2.2.2])
      obtain ⟨x0, hx0⟩ : ∃ x, preQ P s0 = x := ⟨_, rfl⟩
      obtain ⟨x1, hx1⟩ : ∃ x, preQ P s1 = x := ⟨_, rfl⟩
      obtain ⟨x2, hx2⟩ : ∃ x, preQ P s2 = x := ⟨_, rfl⟩
      obtain ⟨x3, hx3⟩ : ∃ x, preQ P s3 = x := ⟨_, rfl⟩
      rw [hx0] at e0
      rw [hx1] at e1
      rw [hx2] at e2
      rw [hx3] at e3
      have hpz : ∀ s, s.size ≤ 9 → (preQ P s).size ≤ 10 := fun s hs => by
        unfold preQ; split
        · omega
        · rw [ByteArray.size_append]; omega
      have hX := Lib.hid (show [s0, s1, s2, s3].map (preQ P) = [x0, x1, x2, x3] by simp only [List.map_cons, List.map_nil, hx0, hx1, hx2, hx3])
      have zx0 : x0.size ≤ 10 := by rw [← hx0]; exact hpz _ hz.2.2.1
      have zx1 : x1.size ≤ 10 := by rw [← hx1]; exact hpz _ hz.2.2.2.1
      have zx2 : x2.size ≤ 10 := by rw [← hx2]; exact hpz _ hz.2.2.2.2.1
      have zx3 : x3.size ≤ 10 := by rw [← hx3]; exact hpz _ hz.2.2.2.2.2
      have hcat := catT hn2 (by omega)
      have zn2 : n2.size ≤ 10 := by rw [← hn2, ByteArray.size_append]; omega
      have hM1 := Lib.hid ((hH.out.grown hgb.out (fun q e => by injection e with e; subst e; exact ⟨rfl, hbg⟩)).clear_ (Y := fun _ => False) (fun q e => e.elim))
      have hn2H := Lib.hid hn2
      clear hx0 hx1 hx2 hx3 hpz hn2 hr hf hrow hrH hfH
      have hfar1 : ∀ k T M f, w.rowIs k T M f → T ∉ MkTs → k < g → wr.heap[k]? = w.heap[k]? := fun k T M f hr hT hk => hgb.out.block k (by omega) (fun e => by injection e with e; omega)
      have hbel1 : Below bm w wr := (Below.refl bm w).grown hgb.out (by omega) (fun q e => by injection e with e; omega)
      have hfarH := Lib.hid hfar1
      have hbelH := Lib.hid hbel1
      clear hfar1 hbel1
      by_cases hp0 : p = 0
      · have htr0 : tr = false := by rw [← htr]; simp [hp0]
        subst htr0
        go_wp2_with fail
        refine (tile_any b bm st n2 (some ⟨g, 0, none⟩) 4 4 [x0, x1, x2, x3] wr hM1.out ⟨rfl, fun _ => ⟨g, 0, rfl, lgw, fun j hj => ?_⟩⟩ (by omega) (fun s hs => by
          simp only [List.mem_cons, List.not_mem_nil, or_false] at hs
          rcases hs with rfl | rfl | rfl | rfl <;> omega) (by omega) hgl htl).mono ?_
        · show World.cell? _ ⟨g, 0 + j * 1, none⟩ = _
          rw [Nat.zero_add, Nat.mul_one]
          have hj4 : j < 4 := hj
          rcases (show j = 0 ∨ j = 1 ∨ j = 2 ∨ j = 3 by omega) with rfl | rfl | rfl | rfl
          · exact e0
          · exact e1
          · exact e2
          · exact e3
        rintro e w6 ⟨rfl, hM6, hF6, hB6⟩
        have hM7 := Lib.hid hM6
        have hF7 := Lib.hid hF6
        have hB7 := Lib.hid hB6
        clear hM6 hF6 hB6
        go_wp2
        refine bodyPost_end (v := .tuple #[]) (by simp only [results, Tryz.results34]; go_simp) rfl ?_
        refine ⟨rfl, ?_, fun k T M f hr hT hk => ?_, hbelH.out.trans hB7.out⟩
        · rw [hX.out]; unfold trnQ; rw [if_pos hp0]; exact hM7.out
        · have hk1 := hfarH.out k T M f hr hT hk
          exact (hF7.out k T M f (hr.of_block hk1) hT).trans hk1
      · have htr0 : tr = true := by rw [← htr]; simp [hp0]
        subst htr0
        go_wp2_with fail
        refine (transposed_any g x0 x1 x2 x3 wr lgw e0 e1 e2 e3).mono ?_
        rintro e w5 ⟨rfl, hw5⟩
        have hb5 : Below wr.heap.size wr w5 := by rw [hw5]; exact bl_al (bl_dr (bl_refl _)) _
        have hrd : RdSl 1 RNm w5 (some ⟨wr.heap.size, 0, none⟩) 4 [x1, x0, x3, x2] := by
          rw [hw5]
          exact (rd4T wr.drew x1 x0 x3 x2 9)
        replace q0 := (hb5.cell (p := ⟨bp, 0, none⟩) lq0).trans q0
        replace q2 := (hb5.cell (p := ⟨bx, 0, none⟩) lq2).trans q2
        have lq0 := Nat.lt_of_lt_of_le lq0 hb5.size
        have lq2 := Nat.lt_of_lt_of_le lq2 hb5.size
        have hb5H := Lib.hid hb5
        have hrdH := Lib.hid hrd
        clear hw5 hb5 hrd
        go_wp2_with fail
        refine (tile_any b bm st n2 (some ⟨wr.heap.size, 0, none⟩) 4 4 [x1, x0, x3, x2] w5 (hM1.out.below hb5H.out) hrdH.out (by omega) (fun s hs => by
          simp only [List.mem_cons, List.not_mem_nil, or_false] at hs
          rcases hs with rfl | rfl | rfl | rfl <;> omega) (by omega) hgl htl).mono ?_
        rintro e w6 ⟨rfl, hM6, hF6, hB6⟩
        have hM7 := Lib.hid hM6
        have hF7 := Lib.hid hF6
        have hB7 := Lib.hid hB6
        clear hM6 hF6 hB6
        go_wp2
        refine bodyPost_end (v := .tuple #[]) (by simp only [results, Tryz.results34]; go_simp) rfl ?_
        refine ⟨rfl, ?_, fun k T M f hr hT hk => ?_, (hbelH.out.trans (hb5H.out.mono (by have := hsz.out; omega))).trans hB7.out⟩
        · rw [hX.out]; unfold trnQ; rw [if_neg hp0]; exact hM7.out
        · have hk1 := hfarH.out k T M f hr hT hk
          have hk2 := (hb5H.out.block k (by have := hsz.out; omega)).trans hk1
          exact (hF7.out k T M f (hr.of_block hk2) hT).trans hk2
end Go.Proofs.YtpnahobgmemdjaaGreatDoor
/- Walks: the program's counter tiles of a square, all of them. -/

namespace Go.Proofs.YtpnahobgmemdjaaGreatDoor
open Go.RowKit Go.Shelf
attribute [local go_sem] BelowBy.cell BelowBy.cell_drew stillUpon givesUpon

theorem glueQ_cd {X : Nat → Prop} {b bm : Nat} {cs : List Cd} {ts : List Ti} {c : Cd} {nm : ByteArray} {s : Int} {w : World} (h : MkrX w b bm (glQ cs, ts) X) (hX : ∀ g, X g → g < w.heap.size) (hn : gqn c = nm) (hs : gsq c = s) (hcs : ∀ d ∈ cs, d ∈ gV) (hc : c ∈ gV) (hno : c ∉ cs) (hl : cs.length ≤ 100) :
    Calls Tryz.prog 14 #[.pointer (some ⟨b, 0, none⟩), .string nm, .int .i64 s] w fun e w' => e = .returned (.tuple #[]) ∧ MkrX w' b bm (glQ (cs ++ [c]), ts) X ∧ Far MkTs w w' ∧ Below bm w w' := by
  subst hn hs
  refine (glueX_any X b bm (glQ cs, ts) (gqn c) (gsq c) w h hX (fresh_q hcs hc hno) (Nat.le_trans (gqn_size hc) (by decide)) (by rw [glQ_len]; omega)).mono ?_
  rintro e w' ⟨he, h1, h2, h3⟩
  unfold addG at h1
  rw [← glQ_snoc] at h1
  exact ⟨he, h1, h2, h3⟩
theorem tileQ_cd {X : Nat → Prop} {b bm L : Nat} {gs : List Gl} {ts : List Ti} {c : Cd} {nm s0 s1 s2 s3 : ByteArray} {o0 o1 o2 o3 : Option Cd} {A : Option Addr} {w : World} (h : MkrX w b bm (gs, ts) X) (hX : ∀ g, X g → g < w.heap.size) (hA : RdSl 1 RNm w A 4 [s0, s1, s2, s3]) (hn : tqn c = nm) (hc : c ∈ tV) (h0 : (numG gs s0 : Int) = sdQ gs o0) (h1 : (numG gs s1 : Int) = sdQ gs o1) (h2 : (numG gs s2 : Int) = sdQ gs o2) (h3 : (numG gs s3 : Int) = sdQ gs o3) (hz : s0.size ≤ 10 ∧ s1.size ≤ 10 ∧ s2.size ≤ 10 ∧ s3.size ≤ 10) (hg : gs.length ≤ 1000) (hl : ts.length = L) (hL : L ≤ 1000) :
    Calls Tryz.prog 17 #[.pointer (some ⟨b, 0, none⟩), .string nm, .slice A 4 4] w fun e w' => e = .returned (.int .i64 (L : Int)) ∧ MkrX w' b bm (gs, ts ++ [tlQ gs c [o0, o1, o2, o3]]) X ∧ Far MkTs w w' ∧ Below bm w w' := by
  subst hl hn
  refine (tileX_any X b bm (gs, ts) (tqn c) A 4 4 [s0, s1, s2, s3] w h hX hA (Nat.le_trans (tqn_size hc) (by decide)) (fun s hs => by
    simp only [List.mem_cons, List.not_mem_nil, or_false] at hs
    rcases hs with rfl | rfl | rfl | rfl <;> omega) (by omega) hg hL).mono ?_
  rintro e w' ⟨he, k1, k2, k3⟩
  unfold addT sidesG at k1
  simp only [List.map_cons, List.map_nil, h0, h1, h2, h3] at k1
  exact ⟨he, k1, k2, k3⟩
theorem wdG_size (j : Nat) : (wdG j).size ≤ 4 := by unfold wdG; split <;> decide
theorem seven_get {k : Nat} (h : k < 7) : ([.string ⟨#[118, 48]⟩, .string ⟨#[118, 49]⟩, .string ⟨#[99, 48]⟩, .string ⟨#[99, 49]⟩, .string ⟨#[117, 112]⟩, .string ⟨#[103, 111]⟩, .string ⟨#[101, 100, 103, 101]⟩] : List Value)[k]? = some (.string (wdG k)) := by
  rcases (show k = 0 ∨ k = 1 ∨ k = 2 ∨ k = 3 ∨ k = 4 ∨ k = 5 ∨ k = 6 by omega) with rfl | rfl | rfl | rfl | rfl | rfl | rfl <;> rfl
theorem far_lt {w W w' : World} (hb : Below w.heap.size w W) (h : ∀ k T M f, W.rowIs k T M f → T ∉ MkTs → k < W.heap.size - 1 → w'.heap[k]? = W.heap[k]?) (hs : w.heap.size < W.heap.size) : Far MkTs w w' :=
  fun k T M f hr hT => (h k T M f (hr.of_block (hb.block k hr.lt)) hT (by have := hr.lt; omega)).trans (hb.block k hr.lt)
/-- the boxes of the call -/
def Bx3 (W : World) (n b : Nat) (P : ByteArray) (tr : Bool) : Prop := BxT W n 40 [.pointer (some ⟨b, 0, none⟩)] ∧ BxT W (n + 1) 9 [.string P] ∧ BxT W (n + 1 + 1) 4 [.bool tr]
theorem Bx3.below {W W' : World} {n b : Nat} {P : ByteArray} {tr : Bool} (h : Bx3 W n b P tr) (hb : Below W.heap.size W W') : Bx3 W' n b P tr := ⟨h.1.below hb, h.2.1.below hb, h.2.2.below hb⟩
theorem Bx3.far {W W' : World} {n b B : Nat} {P : ByteArray} {tr : Bool} (h : Bx3 W n b P tr) (hf : Far MkTs W W') (hb : Below B W W') : Bx3 W' n b P tr := ⟨h.1.far hf (by decide) hb, h.2.1.far hf (by decide) hb, h.2.2.far hf (by decide) hb⟩
set_option maxRecDepth 100000 in
set_option maxHeartbeats 8000000 in
theorem counterTiles_any (b bm p : Nat) (cs0 : List Cd) (ts0 : List Ti) (P : ByteArray) (tr : Bool) (w : World) (hp : p < 2) (hP : prfQ p = P) (htr : decide (p ≠ 0) = tr) (hcs : ∀ d ∈ cs0, d ∈ gV) (hno : ∀ d ∈ cs0, ¬ (d.1 = 0 ∧ d.2.1 = p)) (hlc : cs0.length ≤ 40) (hlt0 : ts0.length ≤ 40) (h : Mkr w b bm (glQ cs0, ts0)) (hT : TabB bm w) :
    Calls Tryz.prog 15 #[.pointer (some ⟨b, 0, none⟩), .string P, .bool tr] w fun e w' => e = .returned (.tuple #[]) ∧ Mkr w' b bm (glQ (cs0 ++ cC p 9), ts0 ++ cntT (glQ (cs0 ++ cC p 9)) p 11) ∧ Far MkTs w w' ∧ Below bm w w' := by
  have hlt := h.lt
  have hH := Lib.hid h
  have hTH := Lib.hid hT
  have hPH := Lib.hid hP
  have htrH := Lib.hid htr
  have hPz : P.size ≤ 1 := by rw [← hP]; unfold prfQ; split <;> decide
  have hcsH := Lib.hid hcs
  have hnoH := Lib.hid hno
  have hcw : ∀ k, k ≤ 9 → ∀ d ∈ cs0 ++ cC p k, d ∈ gV := fun k hk d hd => by
    rcases List.mem_append.1 hd with h1 | h1
    · exact hcs d h1
    · rw [mem_cC] at h1; exact in_gV (.inl ⟨h1.1, by omega, by omega⟩)
  have hnw : ∀ k, (0, p, k) ∉ cs0 ++ cC p k := fun k hd => by
    rcases List.mem_append.1 hd with h1 | h1
    · exact hno _ h1 ⟨rfl, rfl⟩
    · rw [mem_cC] at h1; have := h1.2.2; simp only at this; omega
  have hcwH := Lib.hid hcw
  have hnwH := Lib.hid hnw
  clear h hT hP htr hcs hno hcw hnw
  have hal3 : Below w.heap.size w (((w.alloc (Obj.cells #[.pointer (some ⟨b, 0, none⟩)] 40)).alloc (Obj.cells #[.string P] 9)).alloc (Obj.cells #[.bool tr] 4)) := bl_al (bl_al (bl_al (bl_refl _) _) _) _
  have bx3 : Bx3 (((w.alloc (Obj.cells #[.pointer (some ⟨b, 0, none⟩)] 40)).alloc (Obj.cells #[.string P] 9)).alloc (Obj.cells #[.bool tr] 4)) w.heap.size b P tr := by
    have b1 := ((BxT.made w [.pointer (some ⟨b, 0, none⟩)] 40).below (bl_al (bl_refl _) (Obj.cells #[.string P] 9))).below (bl_al (bl_refl _) (Obj.cells #[.bool tr] 4))
    have b2 := (BxT.made (w.alloc (Obj.cells #[.pointer (some ⟨b, 0, none⟩)] 40)) [.string P] 9).below (bl_al (bl_refl _) (Obj.cells #[.bool tr] 4))
    have b3 := BxT.made ((w.alloc (Obj.cells #[.pointer (some ⟨b, 0, none⟩)] 40)).alloc (Obj.cells #[.string P] 9)) [.bool tr] 4
    simp only [World.size_alloc] at b2 b3
    exact ⟨b1, b2, b3⟩
  go_enter Tryz.func15, Tryz.ntmps15
  go_wp2
  have bxW := bx3.below (bl_al (bl_refl _) (Obj.cells #[.string ⟨#[118, 48]⟩, .string ⟨#[118, 49]⟩, .string ⟨#[99, 48]⟩, .string ⟨#[99, 49]⟩, .string ⟨#[117, 112]⟩, .string ⟨#[103, 111]⟩, .string ⟨#[101, 100, 103, 101]⟩] 9))
  have hbn := BxT.made (((w.alloc (Obj.cells #[.pointer (some ⟨b, 0, none⟩)] 40)).alloc (Obj.cells #[.string P] 9)).alloc (Obj.cells #[.bool tr] 4)) [.string ⟨#[118, 48]⟩, .string ⟨#[118, 49]⟩, .string ⟨#[99, 48]⟩, .string ⟨#[99, 49]⟩, .string ⟨#[117, 112]⟩, .string ⟨#[103, 111]⟩, .string ⟨#[101, 100, 103, 101]⟩] 9
  simp only [World.size_alloc] at hbn
  have hal4 := bl_al hal3 (Obj.cells #[.string ⟨#[118, 48]⟩, .string ⟨#[118, 49]⟩, .string ⟨#[99, 48]⟩, .string ⟨#[99, 49]⟩, .string ⟨#[117, 112]⟩, .string ⟨#[103, 111]⟩, .string ⟨#[101, 100, 103, 101]⟩] 9)
  have hbnH := Lib.hid hbn
  have bxWH := Lib.hid bxW
  have hal4H := Lib.hid hal4
  clear hbn bxW bx3 hal3 hal4
  go_loopg [13] 7 (fun gk i wr => ∃ k : Nat, k + gk = 7 ∧ i = .int .i64 (k : Int) ∧ Hid (Mkr wr b bm (glQ (cs0 ++ cC p k), ts0)) ∧ Hid (Bx3 wr w.heap.size b P tr) ∧ Hid (BxT wr (w.heap.size + 1 + 1 + 1) 9 [.string ⟨#[118, 48]⟩, .string ⟨#[118, 49]⟩, .string ⟨#[99, 48]⟩, .string ⟨#[99, 49]⟩, .string ⟨#[117, 112]⟩, .string ⟨#[103, 111]⟩, .string ⟨#[101, 100, 103, 101]⟩]) ∧ Hid (Far MkTs w wr) ∧ Hid (Below bm w wr))
  case atStart => exact ⟨0, by omega, rfl, by rw [show cC p 0 = [] from rfl, List.append_nil]; exact Lib.hid (hH.out.below hal4H.out), bxWH, hbnH, Lib.hid (Far.of_below hal4H.out), Lib.hid (hal4H.out.mono (by omega))⟩
  case round =>
    clear hbnH bxWH hal4H
    obtain ⟨k, hk, rfl, hM, bx, bN, hfar, hbw⟩ := hrel
    have hszl := hbw.out.size
    have q0 := bx.out.1.1.cell 0 _ rfl
    have q1 := bx.out.2.1.1.cell 0 _ rfl
    have q2 := bx.out.2.2.1.cell 0 _ rfl
    have l0 := bx.out.1.1.lt
    have l1 := bx.out.2.1.1.lt
    have l2 := bx.out.2.2.1.lt
    by_cases hk7 : k < 7
    · have hkI : (k : Int) < 7 := by omega
      have cN := bN.out.1.cell k _ (seven_get hk7)
      have lN := bN.out.1.lt
      obtain ⟨nm, hnm⟩ : ∃ nm, P ++ wdG k = nm := ⟨_, rfl⟩
      have hcat := catT hnm (by have := wdG_size k; omega)
      obtain ⟨wd, hwd⟩ : ∃ wd, wdG k = wd := ⟨_, rfl⟩
      rw [hwd] at cN hcat
      have hnmH := Lib.hid hnm
      have hwdH := Lib.hid hwd
      clear hwd
      go_wp2_with fail
      refine (glueQ_cd (cs := cs0 ++ cC p k) (c := (0, p, k)) (nm := nm) (s := 1) hM.out (fun g e => e.elim) (by rw [← hPH.out] at hnm; exact hnm) (by simp [gsq] <;> omega) (hcwH.out k (by omega)) (in_gV (by simp; omega)) (hnwH.out k) (by rw [List.length_append, cC_len]; omega)).mono ?_
      rintro e w6 ⟨rfl, hM6, hF6, hB6⟩
      rw [List.append_assoc, ← cC_succ] at hM6
      have hM7 := Lib.hid hM6
      have hfar7 := Lib.hid (hfar.out.trans hF6)
      have bw7 := Lib.hid (hbw.out.trans hB6)
      have bx7 := Lib.hid (bx.out.far hF6 hB6)
      clear hM6 hM hfar hbw bx q0 q1 q2 l0 l1 l2 hszl
      have bN7 := Lib.hid (bN.out.far hF6 (by decide) hB6)
      clear hF6 hB6 bN cN lN hnm hnmH hwdH
      go_wp2
      go_roundg (7 - (k + 1))
      case measure => omega
      case rel => exact ⟨k + 1, by omega, by go_num, hM7, bx7, bN7, hfar7, bw7⟩
    · obtain rfl : k = 7 := by omega
      clear bN
      obtain ⟨nm, hnm⟩ : ∃ nm, P ++ wdG 7 = nm := ⟨_, rfl⟩
      have hcat := catT (wd := P) (d := ⟨#[116, 117, 114, 110]⟩) (nm := nm) hnm (by have : (⟨#[116, 117, 114, 110]⟩ : ByteArray).size = 4 := rfl; omega)
      go_wp2_with fail
      refine (glueQ_cd (cs := cs0 ++ cC p 7) (c := (0, p, 7)) (nm := nm) (s := 2) hM.out (fun g e => e.elim) (by rw [← hPH.out] at hnm; exact hnm) (by simp [gsq] <;> omega) (hcwH.out 7 (by omega)) (in_gV (by simp; omega)) (hnwH.out 7) (by rw [List.length_append, cC_len]; omega)).mono ?_
      rintro e w6 ⟨rfl, hM6, hF6, hB6⟩
      rw [List.append_assoc, ← cC_succ] at hM6
      have hM7 := Lib.hid hM6
      have hfar7 := Lib.hid (hfar.out.trans hF6)
      have bw7 := Lib.hid (hbw.out.trans hB6)
      have bx7 := Lib.hid (bx.out.far hF6 hB6)
      clear hM6 hM hfar hbw bx q0 q1 q2 l0 l1 l2 hszl
      clear hF6 hB6 hnm hcat
      obtain ⟨wr, hwr⟩ : ∃ x : World, x = w6 := ⟨_, rfl⟩
      subst hwr
      have hM := hM7
      have hfar := hfar7
      have hbw := bw7
      have bx := bx7
      clear hM7 hfar7 bw7 bx7
      have hszl := hbw.out.size
      have q0 := bx.out.1.1.cell 0 _ rfl
      have q1 := bx.out.2.1.1.cell 0 _ rfl
      have q2 := bx.out.2.2.1.cell 0 _ rfl
      have l0 := bx.out.1.1.lt
      have l1 := bx.out.2.1.1.lt
      have l2 := bx.out.2.2.1.lt
      have jb : Below wr.heap.size wr wr := bl_refl wr
      clear jb
      obtain ⟨nm2, hnm⟩ : ∃ nm, P ++ wdG 8 = nm := ⟨_, rfl⟩
      have hcat := catT (wd := P) (d := ⟨#[110, 101, 120, 116]⟩) (nm := nm2) hnm (by have : (⟨#[110, 101, 120, 116]⟩ : ByteArray).size = 4 := rfl; omega)
      go_wp2_with fail
      refine (glueQ_cd (cs := cs0 ++ cC p 8) (c := (0, p, 8)) (nm := nm2) (s := 2) hM.out (fun g e => e.elim) (by rw [← hPH.out] at hnm; exact hnm) (by simp [gsq] <;> omega) (hcwH.out 8 (by omega)) (in_gV (by simp; omega)) (hnwH.out 8) (by rw [List.length_append, cC_len]; omega)).mono ?_
      rintro e w6 ⟨rfl, hM6, hF6, hB6⟩
      rw [List.append_assoc, ← cC_succ] at hM6
      have hM7 := Lib.hid hM6
      have hfar7 := Lib.hid (hfar.out.trans hF6)
      have bw7 := Lib.hid (hbw.out.trans hB6)
      have bx7 := Lib.hid (bx.out.far hF6 hB6)
      clear hM6 hM hfar hbw bx q0 q1 q2 l0 l1 l2 hszl
      clear hF6 hB6 hnm hcat
      obtain ⟨gs, hgs⟩ : ∃ gs, glQ (cs0 ++ cC p 9) = gs := ⟨_, rfl⟩
      have hgsH := Lib.hid hgs
      have hgl : gs.length ≤ 1000 := by rw [← hgs, glQ_len, List.length_append, cC_len]; omega
      have hdH := Lib.hid (show numG gs ⟨#[45]⟩ = 0 by rw [← hgs]; exact (num_dashQ (hcwH.out 9 (Nat.le_refl _))).1)
      rw [hgs] at hM7
      clear hgs
      go_wp2
      go_loopg [32] 2 (fun gk i wr => ∃ d : Nat, d + gk = 2 ∧ i = .int .i64 (d : Int) ∧ Hid (Mkr wr b bm (gs, ts0 ++ cntT gs p (2 * d))) ∧ Hid (Bx3 wr w.heap.size b P tr) ∧ Hid (Far MkTs w wr) ∧ Hid (Below bm w wr))
      case atStart => exact ⟨0, by omega, rfl, by rw [show cntT gs p (2 * 0) = [] from rfl, List.append_nil]; exact hM7, bx7, hfar7, bw7⟩
      case round =>
        clear hM7 bx7 hfar7 bw7
        obtain ⟨d, hd, rfl, hM, bx, hfar, hbw⟩ := hrel
        have hszl := hbw.out.size
        have q0 := bx.out.1.1.cell 0 _ rfl
        have q1 := bx.out.2.1.1.cell 0 _ rfl
        have q2 := bx.out.2.2.1.cell 0 _ rfl
        have l0 := bx.out.1.1.lt
        have l1 := bx.out.2.1.1.lt
        have l2 := bx.out.2.2.1.lt
        by_cases hd2 : d < 2
        · have hdI : (d : Int) < 2 := by omega
          go_wp2
          go_loopg [35] 2 (fun gk i wr => ∃ c : Nat, c + gk = 2 ∧ i = .int .i64 (c : Int) ∧ Hid (Mkr wr b bm (gs, ts0 ++ cntT gs p (2 * d + c))) ∧ Hid (Bx3 wr w.heap.size b P tr) ∧ Hid (Far MkTs w wr) ∧ Hid (Below bm w wr))
          case atStart => exact ⟨0, by omega, rfl, hM, bx, hfar, hbw⟩
          case round =>
            clear hM bx hfar hbw q0 q1 q2 l0 l1 l2 hszl
            obtain ⟨c, hc, rfl, hM, bx, hfar, hbw⟩ := hrel
            have hszl := hbw.out.size
            have q0 := bx.out.1.1.cell 0 _ rfl
            have q1 := bx.out.2.1.1.cell 0 _ rfl
            have q2 := bx.out.2.2.1.cell 0 _ rfl
            have l0 := bx.out.1.1.lt
            have l1 := bx.out.2.1.1.lt
            have l2 := bx.out.2.2.1.lt
            by_cases hc2 : c < 2
            · have hcI : (c : Int) < 2 := by omega
              have hTr := Lib.hid (hTH.out.below hbw.out)
              have jb : Below wr.heap.size wr wr := bl_refl wr
              rcases (show d = 0 ∨ d = 1 by omega) with rfl | rfl
              · rcases (show c = 0 ∨ c = 1 by omega) with rfl | rfl
                · go_wp2_with fail
                  refine (numbered_n (u := 0) (wd := ⟨#[100]⟩) (s := ⟨#[100, 48]⟩) _ (by decide) (by decide) (hTr.out.here.below jb) (by rw [decN_T (by decide)]; decide +kernel)).mono ?_
                  rintro e w1 ⟨rfl, hb⟩
                  replace jb := jb.trans (hb.mono jb.size)
                  clear hb
                  go_wp2_with fail
                  refine (numbered_n (u := 0) (wd := ⟨#[99]⟩) (s := ⟨#[99, 48]⟩) _ (by decide) (by decide) (hTr.out.here.below jb) (by rw [decN_T (by decide)]; decide +kernel)).mono ?_
                  rintro e w2 ⟨rfl, hb⟩
                  replace jb := jb.trans (hb.mono jb.size)
                  clear hb
                  have hcn := catT (wd := ⟨#[100, 48]⟩) (d := ⟨#[99, 48]⟩) (nm := ⟨#[100, 48, 99, 48]⟩) (by decide +kernel) (by decide)
                  go_wp2_with fail
                  refine (numbered_n (u := 0) (wd := ⟨#[118]⟩) (s := ⟨#[118, 48]⟩) _ (by decide) (by decide) (hTr.out.here.below jb) (by rw [decN_T (by decide)]; decide +kernel)).mono ?_
                  rintro e w3 ⟨rfl, hb⟩
                  replace jb := jb.trans (hb.mono jb.size)
                  clear hb
                  go_wp2_with fail
                  refine (numbered_n (u := 0) (wd := ⟨#[99]⟩) (s := ⟨#[99, 48]⟩) _ (by decide) (by decide) (hTr.out.here.below jb) (by rw [decN_T (by decide)]; decide +kernel)).mono ?_
                  rintro e w4 ⟨rfl, hb⟩
                  replace jb := jb.trans (hb.mono jb.size)
                  clear hb
                  go_wp2_with fail
                  refine (numbered_n (u := 0) (wd := ⟨#[118]⟩) (s := ⟨#[118, 48]⟩) _ (by decide) (by decide) (hTr.out.here.below jb) (by rw [decN_T (by decide)]; decide +kernel)).mono ?_
                  rintro e w5 ⟨rfl, hb⟩
                  replace jb := jb.trans (hb.mono jb.size)
                  clear hb
                  go_wp2_with fail
                  refine (numbered_n (u := 0) (wd := ⟨#[99]⟩) (s := ⟨#[99, 48]⟩) _ (by decide) (by decide) (hTr.out.here.below jb) (by rw [decN_T (by decide)]; decide +kernel)).mono ?_
                  rintro e w5b ⟨rfl, hb⟩
                  replace jb := jb.trans (hb.mono jb.size)
                  clear hb
                  have hM : Hid (Mkr wr b bm (gs, ts0 ++ cntT gs p 0)) := hM
                  -- one more tile of the counter: at w5b, with jb : Below wr.heap.size wr w5b
                  go_wp2_with fail
                  have hgW : (w5b.alloc (Obj.cells #[.string ⟨#[118, 48]⟩, .string ⟨#[99, 48]⟩, .string ⟨#[118, 48]⟩, .string ⟨#[99, 48]⟩] 9)).heap[w5b.heap.size]? = some (Obj.cells #[.string ⟨#[118, 48]⟩, .string ⟨#[99, 48]⟩, .string ⟨#[118, 48]⟩, .string ⟨#[99, 48]⟩] 9) := World.alloc_heap_new _ _
                  have hjs := jb.size
                  have hMg := ((hM.out.below jb).clear_ (Y := fun q => q = w5b.heap.size) (fun q e => .inr (Nat.le_of_eq e.symm))).below (bl_al (bl_refl w5b) (Obj.cells #[.string ⟨#[118, 48]⟩, .string ⟨#[99, 48]⟩, .string ⟨#[118, 48]⟩, .string ⟨#[99, 48]⟩] 9))
                  have jb2 : Below wr.heap.size wr (w5b.alloc (Obj.cells #[.string ⟨#[118, 48]⟩, .string ⟨#[99, 48]⟩, .string ⟨#[118, 48]⟩, .string ⟨#[99, 48]⟩] 9)) := bl_al jb _
                  have bx2 := bx.out.below jb2
                  refine (addC_any b bm w5b.heap.size (w.heap.size + 1) (w.heap.size + 1 + 1) w.heap.size p (gs, ts0 ++ cntT gs p 0) P _ (P ++ wdT 0) ⟨#[118, 48]⟩ ⟨#[99, 48]⟩ ⟨#[118, 48]⟩ ⟨#[99, 48]⟩ tr _ hPH.out htrH.out rfl hMg hgW (by omega) (bx2.2.1.1.cell 0 _ rfl) (bx2.2.2.1.cell 0 _ rfl) (bx2.1.1.cell 0 _ rfl) (by omega) ⟨hPz, by decide, by decide, by decide, by decide, by decide⟩ hgl (by simp only [List.length_append, cntT_len]; omega)).mono ?_
                  rintro e w6 ⟨rfl, hM6, hF6, hB6⟩
                  have hM7 : Hid (Mkr w6 b bm (gs, ts0 ++ cntT gs p (0 + 1))) := Lib.hid (by
                    rw [cntT_succ, ← List.append_assoc, ← add_cnt (ts0 ++ cntT gs p 0) hdH.out p 0 [⟨#[118, 48]⟩, ⟨#[99, 48]⟩, ⟨#[118, 48]⟩, ⟨#[99, 48]⟩] (by first | rfl | rfl) (P ++ wdT 0) (by rw [hPH.out]), hPH.out]
                    exact hM6)
                  have hfX := far_lt jb2 (fun k T M f hr hT hk => hF6 k T M f hr hT (by simpa using hk)) (by first | (simp; done) | (simp; omega))
                  have hfar7 := Lib.hid (hfar.out.trans hfX)
                  have bw7 := Lib.hid (hbw.out.trans ((jb2.mono (show bm ≤ wr.heap.size by omega)).trans hB6))
                  have bx7 := Lib.hid (bx.out.far hfX ((jb2.mono (show bm ≤ wr.heap.size by omega)).trans hB6))
                  clear hM6 hF6 hB6 jb jb2 bx2 hMg hgW hM hfar hbw bx q0 q1 q2 l0 l1 l2 hszl hfX hjs
                  go_wp2
                  go_roundg (2 - (0 + 1))
                  case measure => omega
                  case rel => exact ⟨0 + 1, by omega, by go_num, hM7, bx7, hfar7, bw7⟩
                · go_wp2_with fail
                  refine (numbered_n (u := 0) (wd := ⟨#[100]⟩) (s := ⟨#[100, 48]⟩) _ (by decide) (by decide) (hTr.out.here.below jb) (by rw [decN_T (by decide)]; decide +kernel)).mono ?_
                  rintro e w1 ⟨rfl, hb⟩
                  replace jb := jb.trans (hb.mono jb.size)
                  clear hb
                  go_wp2_with fail
                  refine (numbered_n (u := 1) (wd := ⟨#[99]⟩) (s := ⟨#[99, 49]⟩) _ (by decide) (by decide) (hTr.out.here.below jb) (by rw [decN_T (by decide)]; decide +kernel)).mono ?_
                  rintro e w2 ⟨rfl, hb⟩
                  replace jb := jb.trans (hb.mono jb.size)
                  clear hb
                  have hcn := catT (wd := ⟨#[100, 48]⟩) (d := ⟨#[99, 49]⟩) (nm := ⟨#[100, 48, 99, 49]⟩) (by decide +kernel) (by decide)
                  go_wp2_with fail
                  refine (numbered_n (u := 1) (wd := ⟨#[118]⟩) (s := ⟨#[118, 49]⟩) _ (by decide) (by decide) (hTr.out.here.below jb) (by rw [decN_T (by decide)]; decide +kernel)).mono ?_
                  rintro e w3 ⟨rfl, hb⟩
                  replace jb := jb.trans (hb.mono jb.size)
                  clear hb
                  go_wp2_with fail
                  refine (numbered_n (u := 1) (wd := ⟨#[99]⟩) (s := ⟨#[99, 49]⟩) _ (by decide) (by decide) (hTr.out.here.below jb) (by rw [decN_T (by decide)]; decide +kernel)).mono ?_
                  rintro e w4 ⟨rfl, hb⟩
                  replace jb := jb.trans (hb.mono jb.size)
                  clear hb
                  go_wp2_with fail
                  refine (numbered_n (u := 0) (wd := ⟨#[118]⟩) (s := ⟨#[118, 48]⟩) _ (by decide) (by decide) (hTr.out.here.below jb) (by rw [decN_T (by decide)]; decide +kernel)).mono ?_
                  rintro e w5 ⟨rfl, hb⟩
                  replace jb := jb.trans (hb.mono jb.size)
                  clear hb
                  go_wp2_with fail
                  refine (numbered_n (u := 0) (wd := ⟨#[99]⟩) (s := ⟨#[99, 48]⟩) _ (by decide) (by decide) (hTr.out.here.below jb) (by rw [decN_T (by decide)]; decide +kernel)).mono ?_
                  rintro e w5b ⟨rfl, hb⟩
                  replace jb := jb.trans (hb.mono jb.size)
                  clear hb
                  have hM : Hid (Mkr wr b bm (gs, ts0 ++ cntT gs p 1)) := hM
                  -- one more tile of the counter: at w5b, with jb : Below wr.heap.size wr w5b
                  go_wp2_with fail
                  have hgW : (w5b.alloc (Obj.cells #[.string ⟨#[118, 49]⟩, .string ⟨#[99, 49]⟩, .string ⟨#[118, 48]⟩, .string ⟨#[99, 48]⟩] 9)).heap[w5b.heap.size]? = some (Obj.cells #[.string ⟨#[118, 49]⟩, .string ⟨#[99, 49]⟩, .string ⟨#[118, 48]⟩, .string ⟨#[99, 48]⟩] 9) := World.alloc_heap_new _ _
                  have hjs := jb.size
                  have hMg := ((hM.out.below jb).clear_ (Y := fun q => q = w5b.heap.size) (fun q e => .inr (Nat.le_of_eq e.symm))).below (bl_al (bl_refl w5b) (Obj.cells #[.string ⟨#[118, 49]⟩, .string ⟨#[99, 49]⟩, .string ⟨#[118, 48]⟩, .string ⟨#[99, 48]⟩] 9))
                  have jb2 : Below wr.heap.size wr (w5b.alloc (Obj.cells #[.string ⟨#[118, 49]⟩, .string ⟨#[99, 49]⟩, .string ⟨#[118, 48]⟩, .string ⟨#[99, 48]⟩] 9)) := bl_al jb _
                  have bx2 := bx.out.below jb2
                  refine (addC_any b bm w5b.heap.size (w.heap.size + 1) (w.heap.size + 1 + 1) w.heap.size p (gs, ts0 ++ cntT gs p 1) P _ (P ++ wdT 1) ⟨#[118, 49]⟩ ⟨#[99, 49]⟩ ⟨#[118, 48]⟩ ⟨#[99, 48]⟩ tr _ hPH.out htrH.out rfl hMg hgW (by omega) (bx2.2.1.1.cell 0 _ rfl) (bx2.2.2.1.cell 0 _ rfl) (bx2.1.1.cell 0 _ rfl) (by omega) ⟨hPz, by decide, by decide, by decide, by decide, by decide⟩ hgl (by simp only [List.length_append, cntT_len]; omega)).mono ?_
                  rintro e w6 ⟨rfl, hM6, hF6, hB6⟩
                  have hM7 : Hid (Mkr w6 b bm (gs, ts0 ++ cntT gs p (1 + 1))) := Lib.hid (by
                    rw [cntT_succ, ← List.append_assoc, ← add_cnt (ts0 ++ cntT gs p 1) hdH.out p 1 [⟨#[118, 49]⟩, ⟨#[99, 49]⟩, ⟨#[118, 48]⟩, ⟨#[99, 48]⟩] (by first | rfl | rfl) (P ++ wdT 1) (by rw [hPH.out]), hPH.out]
                    exact hM6)
                  have hfX := far_lt jb2 (fun k T M f hr hT hk => hF6 k T M f hr hT (by simpa using hk)) (by first | (simp; done) | (simp; omega))
                  have hfar7 := Lib.hid (hfar.out.trans hfX)
                  have bw7 := Lib.hid (hbw.out.trans ((jb2.mono (show bm ≤ wr.heap.size by omega)).trans hB6))
                  have bx7 := Lib.hid (bx.out.far hfX ((jb2.mono (show bm ≤ wr.heap.size by omega)).trans hB6))
                  clear hM6 hF6 hB6 jb jb2 bx2 hMg hgW hM hfar hbw bx q0 q1 q2 l0 l1 l2 hszl hfX hjs
                  go_wp2
                  go_roundg (2 - (1 + 1))
                  case measure => omega
                  case rel => exact ⟨1 + 1, by omega, by go_num, hM7, bx7, hfar7, bw7⟩
              · rcases (show c = 0 ∨ c = 1 by omega) with rfl | rfl
                · go_wp2_with fail
                  refine (numbered_n (u := 1) (wd := ⟨#[100]⟩) (s := ⟨#[100, 49]⟩) _ (by decide) (by decide) (hTr.out.here.below jb) (by rw [decN_T (by decide)]; decide +kernel)).mono ?_
                  rintro e w1 ⟨rfl, hb⟩
                  replace jb := jb.trans (hb.mono jb.size)
                  clear hb
                  go_wp2_with fail
                  refine (numbered_n (u := 0) (wd := ⟨#[99]⟩) (s := ⟨#[99, 48]⟩) _ (by decide) (by decide) (hTr.out.here.below jb) (by rw [decN_T (by decide)]; decide +kernel)).mono ?_
                  rintro e w2 ⟨rfl, hb⟩
                  replace jb := jb.trans (hb.mono jb.size)
                  clear hb
                  have hcn := catT (wd := ⟨#[100, 49]⟩) (d := ⟨#[99, 48]⟩) (nm := ⟨#[100, 49, 99, 48]⟩) (by decide +kernel) (by decide)
                  go_wp2_with fail
                  refine (numbered_n (u := 1) (wd := ⟨#[118]⟩) (s := ⟨#[118, 49]⟩) _ (by decide) (by decide) (hTr.out.here.below jb) (by rw [decN_T (by decide)]; decide +kernel)).mono ?_
                  rintro e w3 ⟨rfl, hb⟩
                  replace jb := jb.trans (hb.mono jb.size)
                  clear hb
                  go_wp2_with fail
                  refine (numbered_n (u := 0) (wd := ⟨#[99]⟩) (s := ⟨#[99, 48]⟩) _ (by decide) (by decide) (hTr.out.here.below jb) (by rw [decN_T (by decide)]; decide +kernel)).mono ?_
                  rintro e w4 ⟨rfl, hb⟩
                  replace jb := jb.trans (hb.mono jb.size)
                  clear hb
                  go_wp2_with fail
                  refine (numbered_n (u := 1) (wd := ⟨#[118]⟩) (s := ⟨#[118, 49]⟩) _ (by decide) (by decide) (hTr.out.here.below jb) (by rw [decN_T (by decide)]; decide +kernel)).mono ?_
                  rintro e w5 ⟨rfl, hb⟩
                  replace jb := jb.trans (hb.mono jb.size)
                  clear hb
                  go_wp2_with fail
                  refine (numbered_n (u := 0) (wd := ⟨#[99]⟩) (s := ⟨#[99, 48]⟩) _ (by decide) (by decide) (hTr.out.here.below jb) (by rw [decN_T (by decide)]; decide +kernel)).mono ?_
                  rintro e w5b ⟨rfl, hb⟩
                  replace jb := jb.trans (hb.mono jb.size)
                  clear hb
                  have hM : Hid (Mkr wr b bm (gs, ts0 ++ cntT gs p 2)) := hM
                  -- one more tile of the counter: at w5b, with jb : Below wr.heap.size wr w5b
                  go_wp2_with fail
                  have hgW : (w5b.alloc (Obj.cells #[.string ⟨#[118, 49]⟩, .string ⟨#[99, 48]⟩, .string ⟨#[118, 49]⟩, .string ⟨#[99, 48]⟩] 9)).heap[w5b.heap.size]? = some (Obj.cells #[.string ⟨#[118, 49]⟩, .string ⟨#[99, 48]⟩, .string ⟨#[118, 49]⟩, .string ⟨#[99, 48]⟩] 9) := World.alloc_heap_new _ _
                  have hjs := jb.size
                  have hMg := ((hM.out.below jb).clear_ (Y := fun q => q = w5b.heap.size) (fun q e => .inr (Nat.le_of_eq e.symm))).below (bl_al (bl_refl w5b) (Obj.cells #[.string ⟨#[118, 49]⟩, .string ⟨#[99, 48]⟩, .string ⟨#[118, 49]⟩, .string ⟨#[99, 48]⟩] 9))
                  have jb2 : Below wr.heap.size wr (w5b.alloc (Obj.cells #[.string ⟨#[118, 49]⟩, .string ⟨#[99, 48]⟩, .string ⟨#[118, 49]⟩, .string ⟨#[99, 48]⟩] 9)) := bl_al jb _
                  have bx2 := bx.out.below jb2
                  refine (addC_any b bm w5b.heap.size (w.heap.size + 1) (w.heap.size + 1 + 1) w.heap.size p (gs, ts0 ++ cntT gs p 2) P _ (P ++ wdT 2) ⟨#[118, 49]⟩ ⟨#[99, 48]⟩ ⟨#[118, 49]⟩ ⟨#[99, 48]⟩ tr _ hPH.out htrH.out rfl hMg hgW (by omega) (bx2.2.1.1.cell 0 _ rfl) (bx2.2.2.1.cell 0 _ rfl) (bx2.1.1.cell 0 _ rfl) (by omega) ⟨hPz, by decide, by decide, by decide, by decide, by decide⟩ hgl (by simp only [List.length_append, cntT_len]; omega)).mono ?_
                  rintro e w6 ⟨rfl, hM6, hF6, hB6⟩
                  have hM7 : Hid (Mkr w6 b bm (gs, ts0 ++ cntT gs p (2 + 1))) := Lib.hid (by
                    rw [cntT_succ, ← List.append_assoc, ← add_cnt (ts0 ++ cntT gs p 2) hdH.out p 2 [⟨#[118, 49]⟩, ⟨#[99, 48]⟩, ⟨#[118, 49]⟩, ⟨#[99, 48]⟩] (by first | rfl | rfl) (P ++ wdT 2) (by rw [hPH.out]), hPH.out]
                    exact hM6)
                  have hfX := far_lt jb2 (fun k T M f hr hT hk => hF6 k T M f hr hT (by simpa using hk)) (by first | (simp; done) | (simp; omega))
                  have hfar7 := Lib.hid (hfar.out.trans hfX)
                  have bw7 := Lib.hid (hbw.out.trans ((jb2.mono (show bm ≤ wr.heap.size by omega)).trans hB6))
                  have bx7 := Lib.hid (bx.out.far hfX ((jb2.mono (show bm ≤ wr.heap.size by omega)).trans hB6))
                  clear hM6 hF6 hB6 jb jb2 bx2 hMg hgW hM hfar hbw bx q0 q1 q2 l0 l1 l2 hszl hfX hjs
                  go_wp2
                  go_roundg (2 - (0 + 1))
                  case measure => omega
                  case rel => exact ⟨0 + 1, by omega, by go_num, hM7, bx7, hfar7, bw7⟩
                · go_wp2_with fail
                  refine (numbered_n (u := 1) (wd := ⟨#[100]⟩) (s := ⟨#[100, 49]⟩) _ (by decide) (by decide) (hTr.out.here.below jb) (by rw [decN_T (by decide)]; decide +kernel)).mono ?_
                  rintro e w1 ⟨rfl, hb⟩
                  replace jb := jb.trans (hb.mono jb.size)
                  clear hb
                  go_wp2_with fail
                  refine (numbered_n (u := 1) (wd := ⟨#[99]⟩) (s := ⟨#[99, 49]⟩) _ (by decide) (by decide) (hTr.out.here.below jb) (by rw [decN_T (by decide)]; decide +kernel)).mono ?_
                  rintro e w2 ⟨rfl, hb⟩
                  replace jb := jb.trans (hb.mono jb.size)
                  clear hb
                  have hcn := catT (wd := ⟨#[100, 49]⟩) (d := ⟨#[99, 49]⟩) (nm := ⟨#[100, 49, 99, 49]⟩) (by decide +kernel) (by decide)
                  go_wp2_with fail
                  refine (numbered_n (u := 0) (wd := ⟨#[118]⟩) (s := ⟨#[118, 48]⟩) _ (by decide) (by decide) (hTr.out.here.below jb) (by rw [decN_T (by decide)]; decide +kernel)).mono ?_
                  rintro e w3 ⟨rfl, hb⟩
                  replace jb := jb.trans (hb.mono jb.size)
                  clear hb
                  go_wp2_with fail
                  refine (numbered_n (u := 1) (wd := ⟨#[99]⟩) (s := ⟨#[99, 49]⟩) _ (by decide) (by decide) (hTr.out.here.below jb) (by rw [decN_T (by decide)]; decide +kernel)).mono ?_
                  rintro e w4 ⟨rfl, hb⟩
                  replace jb := jb.trans (hb.mono jb.size)
                  clear hb
                  go_wp2_with fail
                  refine (numbered_n (u := 1) (wd := ⟨#[118]⟩) (s := ⟨#[118, 49]⟩) _ (by decide) (by decide) (hTr.out.here.below jb) (by rw [decN_T (by decide)]; decide +kernel)).mono ?_
                  rintro e w5 ⟨rfl, hb⟩
                  replace jb := jb.trans (hb.mono jb.size)
                  clear hb
                  go_wp2_with fail
                  refine (numbered_n (u := 1) (wd := ⟨#[99]⟩) (s := ⟨#[99, 49]⟩) _ (by decide) (by decide) (hTr.out.here.below jb) (by rw [decN_T (by decide)]; decide +kernel)).mono ?_
                  rintro e w5b ⟨rfl, hb⟩
                  replace jb := jb.trans (hb.mono jb.size)
                  clear hb
                  have hM : Hid (Mkr wr b bm (gs, ts0 ++ cntT gs p 3)) := hM
                  -- one more tile of the counter: at w5b, with jb : Below wr.heap.size wr w5b
                  go_wp2_with fail
                  have hgW : (w5b.alloc (Obj.cells #[.string ⟨#[118, 48]⟩, .string ⟨#[99, 49]⟩, .string ⟨#[118, 49]⟩, .string ⟨#[99, 49]⟩] 9)).heap[w5b.heap.size]? = some (Obj.cells #[.string ⟨#[118, 48]⟩, .string ⟨#[99, 49]⟩, .string ⟨#[118, 49]⟩, .string ⟨#[99, 49]⟩] 9) := World.alloc_heap_new _ _
                  have hjs := jb.size
                  have hMg := ((hM.out.below jb).clear_ (Y := fun q => q = w5b.heap.size) (fun q e => .inr (Nat.le_of_eq e.symm))).below (bl_al (bl_refl w5b) (Obj.cells #[.string ⟨#[118, 48]⟩, .string ⟨#[99, 49]⟩, .string ⟨#[118, 49]⟩, .string ⟨#[99, 49]⟩] 9))
                  have jb2 : Below wr.heap.size wr (w5b.alloc (Obj.cells #[.string ⟨#[118, 48]⟩, .string ⟨#[99, 49]⟩, .string ⟨#[118, 49]⟩, .string ⟨#[99, 49]⟩] 9)) := bl_al jb _
                  have bx2 := bx.out.below jb2
                  refine (addC_any b bm w5b.heap.size (w.heap.size + 1) (w.heap.size + 1 + 1) w.heap.size p (gs, ts0 ++ cntT gs p 3) P _ (P ++ wdT 3) ⟨#[118, 48]⟩ ⟨#[99, 49]⟩ ⟨#[118, 49]⟩ ⟨#[99, 49]⟩ tr _ hPH.out htrH.out rfl hMg hgW (by omega) (bx2.2.1.1.cell 0 _ rfl) (bx2.2.2.1.cell 0 _ rfl) (bx2.1.1.cell 0 _ rfl) (by omega) ⟨hPz, by decide, by decide, by decide, by decide, by decide⟩ hgl (by simp only [List.length_append, cntT_len]; omega)).mono ?_
                  rintro e w6 ⟨rfl, hM6, hF6, hB6⟩
                  have hM7 : Hid (Mkr w6 b bm (gs, ts0 ++ cntT gs p (3 + 1))) := Lib.hid (by
                    rw [cntT_succ, ← List.append_assoc, ← add_cnt (ts0 ++ cntT gs p 3) hdH.out p 3 [⟨#[118, 48]⟩, ⟨#[99, 49]⟩, ⟨#[118, 49]⟩, ⟨#[99, 49]⟩] (by first | rfl | rfl) (P ++ wdT 3) (by rw [hPH.out]), hPH.out]
                    exact hM6)
                  have hfX := far_lt jb2 (fun k T M f hr hT hk => hF6 k T M f hr hT (by simpa using hk)) (by first | (simp; done) | (simp; omega))
                  have hfar7 := Lib.hid (hfar.out.trans hfX)
                  have bw7 := Lib.hid (hbw.out.trans ((jb2.mono (show bm ≤ wr.heap.size by omega)).trans hB6))
                  have bx7 := Lib.hid (bx.out.far hfX ((jb2.mono (show bm ≤ wr.heap.size by omega)).trans hB6))
                  clear hM6 hF6 hB6 jb jb2 bx2 hMg hgW hM hfar hbw bx q0 q1 q2 l0 l1 l2 hszl hfX hjs
                  go_wp2
                  go_roundg (2 - (1 + 1))
                  case measure => omega
                  case rel => exact ⟨1 + 1, by omega, by go_num, hM7, bx7, hfar7, bw7⟩
            · obtain rfl : c = 2 := by omega
              go_wp2
              go_roundg (2 - (d + 1))
              case measure => omega
              case rel => exact ⟨d + 1, by omega, by go_num, hM, bx, hfar, hbw⟩
        · obtain rfl : d = 2 := by omega
          have jb : Below wr.heap.size wr wr := bl_refl wr
          have hM : Hid (Mkr wr b bm (gs, ts0 ++ cntT gs p 4)) := hM
          -- one more tile of the counter: at wr, with jb : Below wr.heap.size wr wr
          go_wp2_with fail
          have hgW : (wr.alloc (Obj.cells #[.string ⟨#[116, 117, 114, 110]⟩, .string ⟨#[99, 48]⟩, .string ⟨#[117, 112]⟩, .string ⟨#[45]⟩] 9)).heap[wr.heap.size]? = some (Obj.cells #[.string ⟨#[116, 117, 114, 110]⟩, .string ⟨#[99, 48]⟩, .string ⟨#[117, 112]⟩, .string ⟨#[45]⟩] 9) := World.alloc_heap_new _ _
          have hjs := jb.size
          have hMg := ((hM.out.below jb).clear_ (Y := fun q => q = wr.heap.size) (fun q e => .inr (Nat.le_of_eq e.symm))).below (bl_al (bl_refl wr) (Obj.cells #[.string ⟨#[116, 117, 114, 110]⟩, .string ⟨#[99, 48]⟩, .string ⟨#[117, 112]⟩, .string ⟨#[45]⟩] 9))
          have jb2 : Below wr.heap.size wr (wr.alloc (Obj.cells #[.string ⟨#[116, 117, 114, 110]⟩, .string ⟨#[99, 48]⟩, .string ⟨#[117, 112]⟩, .string ⟨#[45]⟩] 9)) := bl_al jb _
          have bx2 := bx.out.below jb2
          refine (addC_any b bm wr.heap.size (w.heap.size + 1) (w.heap.size + 1 + 1) w.heap.size p (gs, ts0 ++ cntT gs p 4) P _ (P ++ wdT 4) ⟨#[116, 117, 114, 110]⟩ ⟨#[99, 48]⟩ ⟨#[117, 112]⟩ ⟨#[45]⟩ tr _ hPH.out htrH.out rfl hMg hgW (by omega) (bx2.2.1.1.cell 0 _ rfl) (bx2.2.2.1.cell 0 _ rfl) (bx2.1.1.cell 0 _ rfl) (by omega) ⟨hPz, by decide, by decide, by decide, by decide, by decide⟩ hgl (by simp only [List.length_append, cntT_len]; omega)).mono ?_
          rintro e w6 ⟨rfl, hM6, hF6, hB6⟩
          have hM7 : Hid (Mkr w6 b bm (gs, ts0 ++ cntT gs p (4 + 1))) := Lib.hid (by
            rw [cntT_succ, ← List.append_assoc, ← add_cnt (ts0 ++ cntT gs p 4) hdH.out p 4 [⟨#[116, 117, 114, 110]⟩, ⟨#[99, 48]⟩, ⟨#[117, 112]⟩, ⟨#[45]⟩] (by first | rfl | rfl) (P ++ wdT 4) (by rw [hPH.out]), hPH.out]
            exact hM6)
          have hfX := far_lt jb2 (fun k T M f hr hT hk => hF6 k T M f hr hT (by simpa using hk)) (by first | (simp; done) | (simp; omega))
          have hfar7 := Lib.hid (hfar.out.trans hfX)
          have bw7 := Lib.hid (hbw.out.trans ((jb2.mono (show bm ≤ wr.heap.size by omega)).trans hB6))
          have bx7 := Lib.hid (bx.out.far hfX ((jb2.mono (show bm ≤ wr.heap.size by omega)).trans hB6))
          clear hM6 hF6 hB6 jb jb2 bx2 hMg hgW hM hfar hbw bx q0 q1 q2 l0 l1 l2 hszl hfX hjs
          obtain ⟨wr, hwr⟩ : ∃ x : World, x = w6 := ⟨_, rfl⟩
          subst hwr
          have hM := hM7
          have hfar := hfar7
          have hbw := bw7
          have bx := bx7
          clear hM7 hfar7 bw7 bx7
          have hszl := hbw.out.size
          have q0 := bx.out.1.1.cell 0 _ rfl
          have q1 := bx.out.2.1.1.cell 0 _ rfl
          have q2 := bx.out.2.2.1.cell 0 _ rfl
          have l0 := bx.out.1.1.lt
          have l1 := bx.out.2.1.1.lt
          have l2 := bx.out.2.2.1.lt
          have jb : Below wr.heap.size wr wr := bl_refl wr
          -- one more tile of the counter: at wr, with jb : Below wr.heap.size wr wr
          go_wp2_with fail
          have hgW : (wr.alloc (Obj.cells #[.string ⟨#[45]⟩, .string ⟨#[99, 49]⟩, .string ⟨#[117, 112]⟩, .string ⟨#[45]⟩] 9)).heap[wr.heap.size]? = some (Obj.cells #[.string ⟨#[45]⟩, .string ⟨#[99, 49]⟩, .string ⟨#[117, 112]⟩, .string ⟨#[45]⟩] 9) := World.alloc_heap_new _ _
          have hjs := jb.size
          have hMg := ((hM.out.below jb).clear_ (Y := fun q => q = wr.heap.size) (fun q e => .inr (Nat.le_of_eq e.symm))).below (bl_al (bl_refl wr) (Obj.cells #[.string ⟨#[45]⟩, .string ⟨#[99, 49]⟩, .string ⟨#[117, 112]⟩, .string ⟨#[45]⟩] 9))
          have jb2 : Below wr.heap.size wr (wr.alloc (Obj.cells #[.string ⟨#[45]⟩, .string ⟨#[99, 49]⟩, .string ⟨#[117, 112]⟩, .string ⟨#[45]⟩] 9)) := bl_al jb _
          have bx2 := bx.out.below jb2
          refine (addC_any b bm wr.heap.size (w.heap.size + 1) (w.heap.size + 1 + 1) w.heap.size p (gs, ts0 ++ cntT gs p 5) P _ (P ++ wdT 5) ⟨#[45]⟩ ⟨#[99, 49]⟩ ⟨#[117, 112]⟩ ⟨#[45]⟩ tr _ hPH.out htrH.out rfl hMg hgW (by omega) (bx2.2.1.1.cell 0 _ rfl) (bx2.2.2.1.cell 0 _ rfl) (bx2.1.1.cell 0 _ rfl) (by omega) ⟨hPz, by decide, by decide, by decide, by decide, by decide⟩ hgl (by simp only [List.length_append, cntT_len]; omega)).mono ?_
          rintro e w6 ⟨rfl, hM6, hF6, hB6⟩
          have hM7 : Hid (Mkr w6 b bm (gs, ts0 ++ cntT gs p (5 + 1))) := Lib.hid (by
            rw [cntT_succ, ← List.append_assoc, ← add_cnt (ts0 ++ cntT gs p 5) hdH.out p 5 [⟨#[45]⟩, ⟨#[99, 49]⟩, ⟨#[117, 112]⟩, ⟨#[45]⟩] (by first | rfl | rfl) (P ++ wdT 5) (by rw [hPH.out]), hPH.out]
            exact hM6)
          have hfX := far_lt jb2 (fun k T M f hr hT hk => hF6 k T M f hr hT (by simpa using hk)) (by first | (simp; done) | (simp; omega))
          have hfar7 := Lib.hid (hfar.out.trans hfX)
          have bw7 := Lib.hid (hbw.out.trans ((jb2.mono (show bm ≤ wr.heap.size by omega)).trans hB6))
          have bx7 := Lib.hid (bx.out.far hfX ((jb2.mono (show bm ≤ wr.heap.size by omega)).trans hB6))
          clear hM6 hF6 hB6 jb jb2 bx2 hMg hgW hM hfar hbw bx q0 q1 q2 l0 l1 l2 hszl hfX hjs
          obtain ⟨wr, hwr⟩ : ∃ x : World, x = w6 := ⟨_, rfl⟩
          subst hwr
          have hM := hM7
          have hfar := hfar7
          have hbw := bw7
          have bx := bx7
          clear hM7 hfar7 bw7 bx7
          have hszl := hbw.out.size
          have q0 := bx.out.1.1.cell 0 _ rfl
          have q1 := bx.out.2.1.1.cell 0 _ rfl
          have q2 := bx.out.2.2.1.cell 0 _ rfl
          have l0 := bx.out.1.1.lt
          have l1 := bx.out.2.1.1.lt
          have l2 := bx.out.2.2.1.lt
          have jb : Below wr.heap.size wr wr := bl_refl wr
          -- one more tile of the counter: at wr, with jb : Below wr.heap.size wr wr
          go_wp2_with fail
          have hgW : (wr.alloc (Obj.cells #[.string ⟨#[117, 112]⟩, .string ⟨#[103, 111]⟩, .string ⟨#[116, 117, 114, 110]⟩, .string ⟨#[45]⟩] 9)).heap[wr.heap.size]? = some (Obj.cells #[.string ⟨#[117, 112]⟩, .string ⟨#[103, 111]⟩, .string ⟨#[116, 117, 114, 110]⟩, .string ⟨#[45]⟩] 9) := World.alloc_heap_new _ _
          have hjs := jb.size
          have hMg := ((hM.out.below jb).clear_ (Y := fun q => q = wr.heap.size) (fun q e => .inr (Nat.le_of_eq e.symm))).below (bl_al (bl_refl wr) (Obj.cells #[.string ⟨#[117, 112]⟩, .string ⟨#[103, 111]⟩, .string ⟨#[116, 117, 114, 110]⟩, .string ⟨#[45]⟩] 9))
          have jb2 : Below wr.heap.size wr (wr.alloc (Obj.cells #[.string ⟨#[117, 112]⟩, .string ⟨#[103, 111]⟩, .string ⟨#[116, 117, 114, 110]⟩, .string ⟨#[45]⟩] 9)) := bl_al jb _
          have bx2 := bx.out.below jb2
          refine (addC_any b bm wr.heap.size (w.heap.size + 1) (w.heap.size + 1 + 1) w.heap.size p (gs, ts0 ++ cntT gs p 6) P _ (P ++ wdT 6) ⟨#[117, 112]⟩ ⟨#[103, 111]⟩ ⟨#[116, 117, 114, 110]⟩ ⟨#[45]⟩ tr _ hPH.out htrH.out rfl hMg hgW (by omega) (bx2.2.1.1.cell 0 _ rfl) (bx2.2.2.1.cell 0 _ rfl) (bx2.1.1.cell 0 _ rfl) (by omega) ⟨hPz, by decide, by decide, by decide, by decide, by decide⟩ hgl (by simp only [List.length_append, cntT_len]; omega)).mono ?_
          rintro e w6 ⟨rfl, hM6, hF6, hB6⟩
          have hM7 : Hid (Mkr w6 b bm (gs, ts0 ++ cntT gs p (6 + 1))) := Lib.hid (by
            rw [cntT_succ, ← List.append_assoc, ← add_cnt (ts0 ++ cntT gs p 6) hdH.out p 6 [⟨#[117, 112]⟩, ⟨#[103, 111]⟩, ⟨#[116, 117, 114, 110]⟩, ⟨#[45]⟩] (by first | rfl | rfl) (P ++ wdT 6) (by rw [hPH.out]), hPH.out]
            exact hM6)
          have hfX := far_lt jb2 (fun k T M f hr hT hk => hF6 k T M f hr hT (by simpa using hk)) (by first | (simp; done) | (simp; omega))
          have hfar7 := Lib.hid (hfar.out.trans hfX)
          have bw7 := Lib.hid (hbw.out.trans ((jb2.mono (show bm ≤ wr.heap.size by omega)).trans hB6))
          have bx7 := Lib.hid (bx.out.far hfX ((jb2.mono (show bm ≤ wr.heap.size by omega)).trans hB6))
          clear hM6 hF6 hB6 jb jb2 bx2 hMg hgW hM hfar hbw bx q0 q1 q2 l0 l1 l2 hszl hfX hjs
          obtain ⟨wr, hwr⟩ : ∃ x : World, x = w6 := ⟨_, rfl⟩
          subst hwr
          have hM := hM7
          have hfar := hfar7
          have hbw := bw7
          have bx := bx7
          clear hM7 hfar7 bw7 bx7
          have hszl := hbw.out.size
          have q0 := bx.out.1.1.cell 0 _ rfl
          have q1 := bx.out.2.1.1.cell 0 _ rfl
          have q2 := bx.out.2.2.1.cell 0 _ rfl
          have l0 := bx.out.1.1.lt
          have l1 := bx.out.2.1.1.lt
          have l2 := bx.out.2.2.1.lt
          have jb : Below wr.heap.size wr wr := bl_refl wr
          -- one more tile of the counter: at wr, with jb : Below wr.heap.size wr wr
          go_wp2_with fail
          have hgW : (wr.alloc (Obj.cells #[.string ⟨#[118, 48]⟩, .string ⟨#[103, 111]⟩, .string ⟨#[118, 48]⟩, .string ⟨#[103, 111]⟩] 9)).heap[wr.heap.size]? = some (Obj.cells #[.string ⟨#[118, 48]⟩, .string ⟨#[103, 111]⟩, .string ⟨#[118, 48]⟩, .string ⟨#[103, 111]⟩] 9) := World.alloc_heap_new _ _
          have hjs := jb.size
          have hMg := ((hM.out.below jb).clear_ (Y := fun q => q = wr.heap.size) (fun q e => .inr (Nat.le_of_eq e.symm))).below (bl_al (bl_refl wr) (Obj.cells #[.string ⟨#[118, 48]⟩, .string ⟨#[103, 111]⟩, .string ⟨#[118, 48]⟩, .string ⟨#[103, 111]⟩] 9))
          have jb2 : Below wr.heap.size wr (wr.alloc (Obj.cells #[.string ⟨#[118, 48]⟩, .string ⟨#[103, 111]⟩, .string ⟨#[118, 48]⟩, .string ⟨#[103, 111]⟩] 9)) := bl_al jb _
          have bx2 := bx.out.below jb2
          refine (addC_any b bm wr.heap.size (w.heap.size + 1) (w.heap.size + 1 + 1) w.heap.size p (gs, ts0 ++ cntT gs p 7) P _ (P ++ wdT 7) ⟨#[118, 48]⟩ ⟨#[103, 111]⟩ ⟨#[118, 48]⟩ ⟨#[103, 111]⟩ tr _ hPH.out htrH.out rfl hMg hgW (by omega) (bx2.2.1.1.cell 0 _ rfl) (bx2.2.2.1.cell 0 _ rfl) (bx2.1.1.cell 0 _ rfl) (by omega) ⟨hPz, by decide, by decide, by decide, by decide, by decide⟩ hgl (by simp only [List.length_append, cntT_len]; omega)).mono ?_
          rintro e w6 ⟨rfl, hM6, hF6, hB6⟩
          have hM7 : Hid (Mkr w6 b bm (gs, ts0 ++ cntT gs p (7 + 1))) := Lib.hid (by
            rw [cntT_succ, ← List.append_assoc, ← add_cnt (ts0 ++ cntT gs p 7) hdH.out p 7 [⟨#[118, 48]⟩, ⟨#[103, 111]⟩, ⟨#[118, 48]⟩, ⟨#[103, 111]⟩] (by first | rfl | rfl) (P ++ wdT 7) (by rw [hPH.out]), hPH.out]
            exact hM6)
          have hfX := far_lt jb2 (fun k T M f hr hT hk => hF6 k T M f hr hT (by simpa using hk)) (by first | (simp; done) | (simp; omega))
          have hfar7 := Lib.hid (hfar.out.trans hfX)
          have bw7 := Lib.hid (hbw.out.trans ((jb2.mono (show bm ≤ wr.heap.size by omega)).trans hB6))
          have bx7 := Lib.hid (bx.out.far hfX ((jb2.mono (show bm ≤ wr.heap.size by omega)).trans hB6))
          clear hM6 hF6 hB6 jb jb2 bx2 hMg hgW hM hfar hbw bx q0 q1 q2 l0 l1 l2 hszl hfX hjs
          obtain ⟨wr, hwr⟩ : ∃ x : World, x = w6 := ⟨_, rfl⟩
          subst hwr
          have hM := hM7
          have hfar := hfar7
          have hbw := bw7
          have bx := bx7
          clear hM7 hfar7 bw7 bx7
          have hszl := hbw.out.size
          have q0 := bx.out.1.1.cell 0 _ rfl
          have q1 := bx.out.2.1.1.cell 0 _ rfl
          have q2 := bx.out.2.2.1.cell 0 _ rfl
          have l0 := bx.out.1.1.lt
          have l1 := bx.out.2.1.1.lt
          have l2 := bx.out.2.2.1.lt
          have jb : Below wr.heap.size wr wr := bl_refl wr
          -- one more tile of the counter: at wr, with jb : Below wr.heap.size wr wr
          go_wp2_with fail
          have hgW : (wr.alloc (Obj.cells #[.string ⟨#[118, 49]⟩, .string ⟨#[103, 111]⟩, .string ⟨#[118, 49]⟩, .string ⟨#[103, 111]⟩] 9)).heap[wr.heap.size]? = some (Obj.cells #[.string ⟨#[118, 49]⟩, .string ⟨#[103, 111]⟩, .string ⟨#[118, 49]⟩, .string ⟨#[103, 111]⟩] 9) := World.alloc_heap_new _ _
          have hjs := jb.size
          have hMg := ((hM.out.below jb).clear_ (Y := fun q => q = wr.heap.size) (fun q e => .inr (Nat.le_of_eq e.symm))).below (bl_al (bl_refl wr) (Obj.cells #[.string ⟨#[118, 49]⟩, .string ⟨#[103, 111]⟩, .string ⟨#[118, 49]⟩, .string ⟨#[103, 111]⟩] 9))
          have jb2 : Below wr.heap.size wr (wr.alloc (Obj.cells #[.string ⟨#[118, 49]⟩, .string ⟨#[103, 111]⟩, .string ⟨#[118, 49]⟩, .string ⟨#[103, 111]⟩] 9)) := bl_al jb _
          have bx2 := bx.out.below jb2
          refine (addC_any b bm wr.heap.size (w.heap.size + 1) (w.heap.size + 1 + 1) w.heap.size p (gs, ts0 ++ cntT gs p 8) P _ (P ++ wdT 8) ⟨#[118, 49]⟩ ⟨#[103, 111]⟩ ⟨#[118, 49]⟩ ⟨#[103, 111]⟩ tr _ hPH.out htrH.out rfl hMg hgW (by omega) (bx2.2.1.1.cell 0 _ rfl) (bx2.2.2.1.cell 0 _ rfl) (bx2.1.1.cell 0 _ rfl) (by omega) ⟨hPz, by decide, by decide, by decide, by decide, by decide⟩ hgl (by simp only [List.length_append, cntT_len]; omega)).mono ?_
          rintro e w6 ⟨rfl, hM6, hF6, hB6⟩
          have hM7 : Hid (Mkr w6 b bm (gs, ts0 ++ cntT gs p (8 + 1))) := Lib.hid (by
            rw [cntT_succ, ← List.append_assoc, ← add_cnt (ts0 ++ cntT gs p 8) hdH.out p 8 [⟨#[118, 49]⟩, ⟨#[103, 111]⟩, ⟨#[118, 49]⟩, ⟨#[103, 111]⟩] (by first | rfl | rfl) (P ++ wdT 8) (by rw [hPH.out]), hPH.out]
            exact hM6)
          have hfX := far_lt jb2 (fun k T M f hr hT hk => hF6 k T M f hr hT (by simpa using hk)) (by first | (simp; done) | (simp; omega))
          have hfar7 := Lib.hid (hfar.out.trans hfX)
          have bw7 := Lib.hid (hbw.out.trans ((jb2.mono (show bm ≤ wr.heap.size by omega)).trans hB6))
          have bx7 := Lib.hid (bx.out.far hfX ((jb2.mono (show bm ≤ wr.heap.size by omega)).trans hB6))
          clear hM6 hF6 hB6 jb jb2 bx2 hMg hgW hM hfar hbw bx q0 q1 q2 l0 l1 l2 hszl hfX hjs
          obtain ⟨wr, hwr⟩ : ∃ x : World, x = w6 := ⟨_, rfl⟩
          subst hwr
          have hM := hM7
          have hfar := hfar7
          have hbw := bw7
          have bx := bx7
          clear hM7 hfar7 bw7 bx7
          have hszl := hbw.out.size
          have q0 := bx.out.1.1.cell 0 _ rfl
          have q1 := bx.out.2.1.1.cell 0 _ rfl
          have q2 := bx.out.2.2.1.cell 0 _ rfl
          have l0 := bx.out.1.1.lt
          have l1 := bx.out.2.1.1.lt
          have l2 := bx.out.2.2.1.lt
          have jb : Below wr.heap.size wr wr := bl_refl wr
          -- one more tile of the counter: at wr, with jb : Below wr.heap.size wr wr
          go_wp2_with fail
          have hgW : (wr.alloc (Obj.cells #[.string ⟨#[110, 101, 120, 116]⟩, .string ⟨#[102, 105, 108, 108]⟩, .string ⟨#[101, 100, 103, 101]⟩, .string ⟨#[103, 111]⟩] 9)).heap[wr.heap.size]? = some (Obj.cells #[.string ⟨#[110, 101, 120, 116]⟩, .string ⟨#[102, 105, 108, 108]⟩, .string ⟨#[101, 100, 103, 101]⟩, .string ⟨#[103, 111]⟩] 9) := World.alloc_heap_new _ _
          have hjs := jb.size
          have hMg := ((hM.out.below jb).clear_ (Y := fun q => q = wr.heap.size) (fun q e => .inr (Nat.le_of_eq e.symm))).below (bl_al (bl_refl wr) (Obj.cells #[.string ⟨#[110, 101, 120, 116]⟩, .string ⟨#[102, 105, 108, 108]⟩, .string ⟨#[101, 100, 103, 101]⟩, .string ⟨#[103, 111]⟩] 9))
          have jb2 : Below wr.heap.size wr (wr.alloc (Obj.cells #[.string ⟨#[110, 101, 120, 116]⟩, .string ⟨#[102, 105, 108, 108]⟩, .string ⟨#[101, 100, 103, 101]⟩, .string ⟨#[103, 111]⟩] 9)) := bl_al jb _
          have bx2 := bx.out.below jb2
          refine (addC_any b bm wr.heap.size (w.heap.size + 1) (w.heap.size + 1 + 1) w.heap.size p (gs, ts0 ++ cntT gs p 9) P _ (P ++ wdT 9) ⟨#[110, 101, 120, 116]⟩ ⟨#[102, 105, 108, 108]⟩ ⟨#[101, 100, 103, 101]⟩ ⟨#[103, 111]⟩ tr _ hPH.out htrH.out rfl hMg hgW (by omega) (bx2.2.1.1.cell 0 _ rfl) (bx2.2.2.1.cell 0 _ rfl) (bx2.1.1.cell 0 _ rfl) (by omega) ⟨hPz, by decide, by decide, by decide, by decide, by decide⟩ hgl (by simp only [List.length_append, cntT_len]; omega)).mono ?_
          rintro e w6 ⟨rfl, hM6, hF6, hB6⟩
          have hM7 : Hid (Mkr w6 b bm (gs, ts0 ++ cntT gs p (9 + 1))) := Lib.hid (by
            rw [cntT_succ, ← List.append_assoc, ← add_cnt (ts0 ++ cntT gs p 9) hdH.out p 9 [⟨#[110, 101, 120, 116]⟩, ⟨#[102, 105, 108, 108]⟩, ⟨#[101, 100, 103, 101]⟩, ⟨#[103, 111]⟩] (by first | rfl | rfl) (P ++ wdT 9) (by rw [hPH.out]), hPH.out]
            exact hM6)
          have hfX := far_lt jb2 (fun k T M f hr hT hk => hF6 k T M f hr hT (by simpa using hk)) (by first | (simp; done) | (simp; omega))
          have hfar7 := Lib.hid (hfar.out.trans hfX)
          have bw7 := Lib.hid (hbw.out.trans ((jb2.mono (show bm ≤ wr.heap.size by omega)).trans hB6))
          have bx7 := Lib.hid (bx.out.far hfX ((jb2.mono (show bm ≤ wr.heap.size by omega)).trans hB6))
          clear hM6 hF6 hB6 jb jb2 bx2 hMg hgW hM hfar hbw bx q0 q1 q2 l0 l1 l2 hszl hfX hjs
          obtain ⟨wr, hwr⟩ : ∃ x : World, x = w6 := ⟨_, rfl⟩
          subst hwr
          have hM := hM7
          have hfar := hfar7
          have hbw := bw7
          have bx := bx7
          clear hM7 hfar7 bw7 bx7
          have hszl := hbw.out.size
          have q0 := bx.out.1.1.cell 0 _ rfl
          have q1 := bx.out.2.1.1.cell 0 _ rfl
          have q2 := bx.out.2.2.1.cell 0 _ rfl
          have l0 := bx.out.1.1.lt
          have l1 := bx.out.2.1.1.lt
          have l2 := bx.out.2.2.1.lt
          have jb : Below wr.heap.size wr wr := bl_refl wr
          -- one more tile of the counter: at wr, with jb : Below wr.heap.size wr wr
          go_wp2_with fail
          have hgW : (wr.alloc (Obj.cells #[.string ⟨#[101, 100, 103, 101]⟩, .string ⟨#[102, 105, 108, 108]⟩, .string ⟨#[110, 101, 120, 116]⟩, .string ⟨#[99, 49]⟩] 9)).heap[wr.heap.size]? = some (Obj.cells #[.string ⟨#[101, 100, 103, 101]⟩, .string ⟨#[102, 105, 108, 108]⟩, .string ⟨#[110, 101, 120, 116]⟩, .string ⟨#[99, 49]⟩] 9) := World.alloc_heap_new _ _
          have hjs := jb.size
          have hMg := ((hM.out.below jb).clear_ (Y := fun q => q = wr.heap.size) (fun q e => .inr (Nat.le_of_eq e.symm))).below (bl_al (bl_refl wr) (Obj.cells #[.string ⟨#[101, 100, 103, 101]⟩, .string ⟨#[102, 105, 108, 108]⟩, .string ⟨#[110, 101, 120, 116]⟩, .string ⟨#[99, 49]⟩] 9))
          have jb2 : Below wr.heap.size wr (wr.alloc (Obj.cells #[.string ⟨#[101, 100, 103, 101]⟩, .string ⟨#[102, 105, 108, 108]⟩, .string ⟨#[110, 101, 120, 116]⟩, .string ⟨#[99, 49]⟩] 9)) := bl_al jb _
          have bx2 := bx.out.below jb2
          refine (addC_any b bm wr.heap.size (w.heap.size + 1) (w.heap.size + 1 + 1) w.heap.size p (gs, ts0 ++ cntT gs p 10) P _ (P ++ wdT 10) ⟨#[101, 100, 103, 101]⟩ ⟨#[102, 105, 108, 108]⟩ ⟨#[110, 101, 120, 116]⟩ ⟨#[99, 49]⟩ tr _ hPH.out htrH.out rfl hMg hgW (by omega) (bx2.2.1.1.cell 0 _ rfl) (bx2.2.2.1.cell 0 _ rfl) (bx2.1.1.cell 0 _ rfl) (by omega) ⟨hPz, by decide, by decide, by decide, by decide, by decide⟩ hgl (by simp only [List.length_append, cntT_len]; omega)).mono ?_
          rintro e w6 ⟨rfl, hM6, hF6, hB6⟩
          have hM7 : Hid (Mkr w6 b bm (gs, ts0 ++ cntT gs p (10 + 1))) := Lib.hid (by
            rw [cntT_succ, ← List.append_assoc, ← add_cnt (ts0 ++ cntT gs p 10) hdH.out p 10 [⟨#[101, 100, 103, 101]⟩, ⟨#[102, 105, 108, 108]⟩, ⟨#[110, 101, 120, 116]⟩, ⟨#[99, 49]⟩] (by first | rfl | rfl) (P ++ wdT 10) (by rw [hPH.out]), hPH.out]
            exact hM6)
          have hfX := far_lt jb2 (fun k T M f hr hT hk => hF6 k T M f hr hT (by simpa using hk)) (by first | (simp; done) | (simp; omega))
          have hfar7 := Lib.hid (hfar.out.trans hfX)
          have bw7 := Lib.hid (hbw.out.trans ((jb2.mono (show bm ≤ wr.heap.size by omega)).trans hB6))
          have bx7 := Lib.hid (bx.out.far hfX ((jb2.mono (show bm ≤ wr.heap.size by omega)).trans hB6))
          clear hM6 hF6 hB6 jb jb2 bx2 hMg hgW hM hfar hbw bx q0 q1 q2 l0 l1 l2 hszl hfX hjs
          go_wp2
          refine bodyPost_end (v := .tuple #[]) (by simp only [results, Tryz.results15]; go_simp) rfl ?_
          rw [hgsH.out]
          exact ⟨rfl, hM7.out, hfar7.out, bw7.out⟩
end Go.Proofs.YtpnahobgmemdjaaGreatDoor
/- Walks: the digits of a number by the program (a range over slices.Backward). -/












namespace Go.Proofs.YtpnahobgmemdjaaGreatDoor
open Go.RowKit Go.Shelf
attribute [local go_sem] BelowBy.cell BelowBy.cell_drew stillUpon givesUpon Oper.semAt_some

/-- what a round of the loop leaves of the iterator's box and of the row -/
structure KpD (B g d : Nat) (W W' : World) : Prop where
  bx : ∀ cs t, W.heap[B]? = some (Obj.cells cs t) → W'.heap[B]? = some (Obj.cells cs t)
  row : ∀ f, W.rowIs g 2 d f → ∃ f', W'.rowIs g 2 d f'
  sz : W.heap.size ≤ W'.heap.size
theorem KpD.refl (B g d : Nat) (W : World) : KpD B g d W W := ⟨fun _ _ h => h, fun f h => ⟨f, h⟩, Nat.le_refl _⟩
theorem KpD.t {B g d : Nat} {X Y Z : World} (h : KpD B g d X Y) (k : KpD B g d Y Z) : KpD B g d X Z :=
  ⟨fun cs t e => k.bx cs t (h.bx cs t e), fun f e => by obtain ⟨f', e'⟩ := h.row f e; exact k.row f' e', Nat.le_trans h.sz k.sz⟩
theorem KpD.b {B g d : Nat} (W : World) (l : Nat) (o o' : Obj) (h : W.heap[l]? = some o) (hc : o.isCells = false) : KpD B g d W (W.putObj l o') := by
  refine ⟨fun cs t e => (World.putObj_heap_other (fun e2 => ?_)).trans e, fun f hr => ⟨f, hr.of_block (World.putObj_heap_other (fun e2 => ?_))⟩, by simp [World.putObj]⟩
  · subst e2; rw [h] at e; obtain rfl := Option.some.inj e; cases hc
  · subst e2
    obtain ⟨cur, hh, _⟩ := hr
    rw [h] at hh; obtain rfl := Option.some.inj hh; cases hc
/-- one round of the iterator: a place and what lies there -/
abbrev BkT (d : Nat) : Type := Fin d × Value
def encB {d : Nat} (x : BkT d) : Array Value := #[.int .i64 (x.1.val : Int), x.2]
def revs (d j : Nat) : List Nat := (List.range j).map fun i => d - 1 - i
theorem revs_succ (d j : Nat) : revs d (j + 1) = revs d j ++ [d - 1 - j] := by simp [revs, List.range_succ]
theorem revs_len (d j : Nat) : (revs d j).length = j := by simp [revs]
theorem Backward_any (A : Option Addr) (n c : Nat) (w : World) :
    Calls Tryz.prog 53 #[.slice A n c] w fun e w' => e = .returned (.func (.func 65) #[] #[.pointer (some ⟨w.heap.size, 0, none⟩)]) ∧ w' = w.alloc (.cells #[.slice A n c] 55) := by
  go_enter Tryz.func53, Tryz.ntmps53
  go_wp2
  go_ret
  exact ⟨rfl, rfl⟩
set_option maxRecDepth 100000 in
set_option maxHeartbeats 1000000 in
theorem backward1_in (n l B g d c : Nat) (J Jx : List (BkT d) → World → Prop)
    (hY : ∀ pre x W, J pre W → pre.length < 20 → YieldAt Fence.wide (n - 1) Tryz.prog l (encB x) W fun e W' =>
      (e = .returned (.bool true) ∧ J (pre ++ [x]) W' ∧ KpD B g d W W') ∨ (e = .returned (.bool false) ∧ Jx (pre ++ [x]) W'))
    (W : World) (hB : W.heap[B]? = some (Obj.cells #[.slice (some ⟨g, 0, none⟩) d c] 55)) (hr : ∃ f, W.rowIs g 2 d f) (hd : d ≤ 10) (h0 : J [] W) :
    CallsIn Fence.wide n Tryz.prog 65 #[.func (.yield l) #[] #[], .pointer (some ⟨B, 0, none⟩)] W fun e W' => (∃ v, e = .returned v) ∧
      ((∃ ys, ys.map (fun x => x.1.val) = revs d d ∧ J ys W') ∨ (∃ pre, True ∧ Jx pre W')) := by
  have hYh := Lib.hid hY
  clear hY
  refine callsIn_of_wp Tryz.func65 rfl trivial ?_ rfl
  simp only [Tryz.ntmps65, List.size_toArray, List.length_cons, List.length_nil, Nat.reduceAdd, Nat.reduceSub, Array.replicate_succ, Array.replicate_zero, List.push_toArray, List.append_toArray, List.nil_append, List.cons_append]
  have hcB : W.cell? ⟨B, 0, none⟩ = some (.slice (some ⟨g, 0, none⟩) d c) := by simp [World.cell?, hB]
  have hw1 : IntKind.i64.wrap ((d : Int) - 1) = (d : Int) - 1 := wrapT (by omega) (by omega)
  have hBH := Lib.hid hB
  have hrH := Lib.hid hr
  have h0H := Lib.hid h0
  clear hB hr h0
  gi_wp2
  gi_loopw [3] (fun x wr => ∃ (j : Nat) (pre : List (BkT d)), j ≤ d ∧ x = .int .i64 ((d : Int) - 1 - j) ∧ pre.map (fun x => x.1.val) = revs d j ∧ J pre wr ∧ KpD B g d W wr) (fun x _ => (intOf x + 1).toNat)
  case atStart => exact ⟨0, [], by omega, by simp, rfl, h0H.out, KpD.refl _ _ _ _⟩
  case round =>
    obtain ⟨j, pre, hj, rfl, hpre, hJ, hK⟩ := hrel
    have hBw := hK.bx _ _ hBH.out
    obtain ⟨f0, hr0⟩ := hrH.out
    obtain ⟨f1, hr1⟩ := hK.row _ hr0
    have q0 : wr.cell? ⟨B, 0, none⟩ = some (.slice (some ⟨g, 0, none⟩) d c) := by simp [World.cell?, hBw]
    have lB : B < wr.heap.size := (Array.getElem?_eq_some_iff.1 hBw).1
    have hpl : pre.length = j := by have := congrArg List.length hpre; rw [List.length_map, revs_len] at this; exact this
    have hpreH := Lib.hid hpre
    have hJH := Lib.hid hJ
    have hKH := Lib.hid hK
    clear hpre hJ hK hr0
    by_cases hjd : j < d
    · obtain ⟨i, hi⟩ : ∃ i : Nat, d - 1 - j = i := ⟨_, rfl⟩
      have hid : i < d := by omega
      have hix : (d : Int) - 1 - (j : Int) = (i : Int) := by omega
      rw [hix]
      have e0 := hr1.cell (i := i) hid
      have lg := hr1.lt
      have hge : (0 : Int) ≤ (i : Int) := by omega
      have hw2 : IntKind.i64.wrap ((i : Int) - 1) = (i : Int) - 1 := wrapT (by omega) (by omega)
      obtain ⟨fn, tmps, assign, body, hy, hR⟩ := hYh.out pre ⟨⟨i, hid⟩, f1 i⟩ wr hJH.out (by omega)
      simp only [encB] at hy
      have hiH := Lib.hid hi
      clear hi hix hr1
      gi_wp2
      refine ⟨fun h => (by cases h), hR.mono ?_⟩
      rintro e3 W3 (⟨rfl, hJ3, hk3⟩ | ⟨rfl, hJx3⟩)
      · gi_wp2
        go_roundw
        case rel => exact ⟨j + 1, _, by omega, congrArg (Value.int IntKind.i64) (by have := hiH.out; omega), by rw [List.map_append, hpreH.out, revs_succ, hiH.out]; rfl, hJ3, hKH.out.t hk3⟩
        case measure => first | (simp [intOf]; done) | (simp [intOf]; omega)
      · gi_wp2
        refine bodyPost_ret (results_none rfl _ _ _) rfl ?_
        exact ⟨⟨_, rfl⟩, .inr ⟨_, trivial, hJx3⟩⟩
    · obtain rfl : j = d := by omega
      have hix : (j : Int) - 1 - (j : Int) = -1 := by omega
      rw [hix]
      gi_wp2
      go_end0
      exact ⟨⟨_, rfl⟩, .inl ⟨_, hpreH.out, hJH.out⟩⟩
theorem backward_stops (n B g d c : Nat) (w : World) (hB : w.heap[B]? = some (Obj.cells #[.slice (some ⟨g, 0, none⟩) d c] 55)) (hr : ∃ f, w.rowIs g 2 d f) (hd : d ≤ 10) :
    SeqStopsK Fence.wide n Tryz.prog 65 #[.pointer (some ⟨B, 0, none⟩)] (encB (d := d)) (KpD B g d) (fun ys => ys.map (fun x => x.1.val) = revs d d) (fun _ => True) 20 w := fun l J Jx W hW hJ _ hY h0 =>
  backward1_in n l B g d c J Jx hY W ((hW.block B (Array.getElem?_eq_some_iff.1 hB).1).trans hB) (by obtain ⟨f, h⟩ := hr; exact ⟨f, h.of_block (hW.block g h.lt)⟩) hd h0
/-- the row after some rounds -/
def digS (n : Nat) {d : Nat} (pre : List (BkT d)) : Nat × (Nat → Nat) := pre.foldl (fun s x => (s.1 + 1, fun i => if i = x.1.val then n / 2 ^ s.1 % 2 else s.2 i)) (0, fun _ => 0)
theorem digS_snoc (n : Nat) {d : Nat} (pre : List (BkT d)) (x : BkT d) : digS n (pre ++ [x]) = ((digS n pre).1 + 1, fun i => if i = x.1.val then n / 2 ^ (digS n pre).1 % 2 else (digS n pre).2 i) := by
  unfold digS; rw [List.foldl_append]; rfl
theorem digS_at (n : Nat) {d : Nat} : ∀ (j : Nat) (pre : List (BkT d)), j ≤ d → pre.map (fun x => x.1.val) = revs d j → (digS n pre).1 = j ∧ ∀ i, i < d → d - j ≤ i → (digS n pre).2 i = n / 2 ^ (d - 1 - i) % 2
  | 0, pre, _, h => by
    have : pre = [] := by cases pre with | nil => rfl | cons a l => simp [revs] at h
    subst this
    exact ⟨rfl, fun i hi h => by omega⟩
  | j + 1, pre, hj, h => by
    have hl : pre.length = j + 1 := by have := congrArg List.length h; rw [List.length_map, revs_len] at this; exact this
    obtain ⟨q, x, rfl⟩ : ∃ q x, pre = q ++ [x] := ⟨pre.dropLast, pre.getLast (by intro e; subst e; cases hl), (List.dropLast_concat_getLast _).symm⟩
    rw [List.map_append, revs_succ] at h
    have h2 := List.append_inj' h rfl
    have ih := digS_at n j q (by omega) h2.1
    have hx : x.1.val = d - 1 - j := by have := h2.2; simpa using this
    rw [digS_snoc]
    refine ⟨by simp only [ih.1], fun i hi hdi => ?_⟩
    simp only
    by_cases hix : i = x.1.val
    · rw [if_pos hix, ih.1, show d - 1 - i = j by omega]
    · rw [if_neg hix]; exact ih.2 i hi (by omega)
theorem rowIs_congr {W : World} {b : Nat} {T : TypeId} {N : Nat} {f f' : Nat → Value} (h : W.rowIs b T N f) (he : ∀ i, i < N → f i = f' i) : W.rowIs b T N f' := by
  obtain ⟨cur, h1, h2, h3⟩ := h
  exact ⟨cur, h1, h2, fun i hi => (h3 i hi).trans (congrArg some (he i hi))⟩
theorem rowIs_ownF {β : Type} (B b : Nat) (T : TypeId) (N : Nat) (f : β → Nat → Value) : OwnFrom B (fun (s : β) W => W.rowIs b T N (f s)) := fun s X Y row hs hg hr =>
  World.rowIs.of_block hs (hg.block b hs.lt (fun e => by
    obtain ⟨_, o, ho, hc⟩ := hr b e.symm
    obtain ⟨cur, h1, _⟩ := hs
    rw [h1] at ho; obtain rfl := Option.some.inj ho; cases hc))
theorem rowIs_one {w : World} (v : Value) (T : TypeId) : (w.alloc (.cells #[v] T)).rowIs w.heap.size T 1 (fun _ => v) :=
  ⟨#[v], by show (w.heap.push _)[w.heap.size]? = _; simp, rfl, fun i hi => by
    have h0 : i = 0 := by omega
    subst h0; rfl⟩
set_option maxRecDepth 100000 in
set_option maxHeartbeats 2000000 in
theorem digitsOf_in (n : Nat) (d m : Nat) (w : World) (hd : 1 ≤ d ∧ d ≤ 5) (hm : m ≤ 1000) (hn : 3 ≤ n) :
    CallsIn Fence.wide n Tryz.prog 37 #[.int .i64 2, .int .i64 (d : Int), .int .i64 (m : Int)] w fun e W' => ∃ g, e = .returned (.slice (some ⟨g, 0, none⟩) d d) ∧ w.heap.size ≤ g ∧ W'.rowIs g 2 d (fun i => .int .i64 ((m / 2 ^ (d - 1 - i) % 2 : Nat) : Int)) ∧ Below w.heap.size w W' := by
  have h1 : 1 ≤ n := by omega
  have hmk := fun W => run_makeN (P := Tryz.prog) 55 2 _ 1 8 Tryz.underlying55 infoI d (by omega) (by omega) W
  refine callsIn_of_wp_marks Tryz.func37 rfl trivial ?_ rfl
  simp only [Tryz.ntmps37, List.size_toArray, List.length_cons, List.length_nil, Nat.reduceAdd, Nat.reduceSub, Array.replicate_succ, Array.replicate_zero, List.push_toArray, List.append_toArray, List.nil_append, List.cons_append]
  gi_wp2_with (refine ⟨trivial, ?_⟩; gi_at_call 53; refine (callsIn_wide.2 (Backward_any _ _ _ _)).mono ?_; rintro e w' ⟨rfl, rfl⟩)
  obtain ⟨W0, hW0⟩ : ∃ W0, W0 = ((((w.alloc (Obj.cells #[Value.int .i64 2] 2)).alloc (Obj.cells #[Value.int .i64 (m : Int)] 2)).alloc (Obj.cells (madeCells #[Value.int .i64 0] d) 2)).alloc (Obj.cells #[.slice (some ⟨w.heap.size + 1 + 1, 0, none⟩) d d] 55)).alloc (Obj.cells #[.slice (some ⟨w.heap.size + 1 + 1, 0, none⟩) d d] 55) := ⟨_, rfl⟩
  have hsz : W0.heap.size = w.heap.size + 5 := by rw [hW0]; simp
  have hB0 : Below w.heap.size w W0 := by rw [hW0]; exact bel_
  have rB : W0.rowIs w.heap.size 2 1 (fun _ => .int .i64 2) := by
    rw [hW0]
    exact ((((rowIs_one (w := w) (.int .i64 2) 2).alloc _).alloc _).alloc _).alloc _
  have rN : W0.rowIs (w.heap.size + 1) 2 1 (fun _ => .int .i64 (m : Int)) := by
    rw [hW0]
    have h := rowIs_one (w := w.alloc (Obj.cells #[Value.int .i64 2] 2)) (.int .i64 (m : Int)) 2
    rw [World.size_alloc] at h
    exact ((h.alloc _).alloc _).alloc _
  have rR : W0.rowIs (w.heap.size + 1 + 1) 2 d (fun _ => .int .i64 0) := by
    rw [hW0]
    have h := rowIs_make ((w.alloc (Obj.cells #[Value.int .i64 2] 2)).alloc (Obj.cells #[Value.int .i64 (m : Int)] 2)) #[.int .i64 0] d 2
    simp only [World.size_alloc] at h
    exact ((rowIs_congr h (fun i hi => by simp [Nat.mod_one])).alloc _).alloc _
  have rO : W0.rowIs (w.heap.size + 1 + 1 + 1) 55 1 (fun _ => .slice (some ⟨w.heap.size + 1 + 1, 0, none⟩) d d) := by
    rw [hW0]
    have h := rowIs_one (w := ((w.alloc (Obj.cells #[Value.int .i64 2] 2)).alloc (Obj.cells #[Value.int .i64 (m : Int)] 2)).alloc (Obj.cells (madeCells #[Value.int .i64 0] d) 2)) (.slice (some ⟨w.heap.size + 1 + 1, 0, none⟩) d d) 55
    simp only [World.size_alloc] at h
    exact h.alloc _
  have bI : W0.heap[w.heap.size + 1 + 1 + 1 + 1]? = some (Obj.cells #[.slice (some ⟨w.heap.size + 1 + 1, 0, none⟩) d d] 55) := by
    rw [hW0]
    have h := World.alloc_heap_new ((((w.alloc (Obj.cells #[Value.int .i64 2] 2)).alloc (Obj.cells #[Value.int .i64 (m : Int)] 2)).alloc (Obj.cells (madeCells #[Value.int .i64 0] d) 2)).alloc (Obj.cells #[.slice (some ⟨w.heap.size + 1 + 1, 0, none⟩) d d] 55)) (Obj.cells #[.slice (some ⟨w.heap.size + 1 + 1, 0, none⟩) d d] 55)
    simpa only [World.size_alloc] using h
  rw [← hW0]
  clear hW0
  refine wpIn_rangeFunc_ownH rfl h1 (gf := 65) (lb := #[.pointer (some ⟨w.heap.size + 1 + 1 + 1 + 1, 0, none⟩)]) rfl trivial (enters_of Tryz.func65 (by kernel_rfl) rfl)
    (backward_stops (n - 1) (w.heap.size + 1 + 1 + 1 + 1) (w.heap.size + 1 + 1) d d W0 bI ⟨_, rR⟩ (by omega)) (fun h k => KpD.t h k) (fun W l o o' _ h hc _ => KpD.b W l o o' h hc) (Below.refl _ _) (fun _ => rfl)
    (fun pre W => (W.rowIs w.heap.size 2 1 (fun _ => .int .i64 2) ∧ W.rowIs (w.heap.size + 1) 2 1 (fun _ => .int .i64 ((m / 2 ^ (digS m pre).1 : Nat) : Int)) ∧ W.rowIs (w.heap.size + 1 + 1) 2 d (fun i => .int .i64 (((digS m pre).2 i : Nat) : Int)) ∧ W.rowIs (w.heap.size + 1 + 1 + 1) 55 1 (fun _ => .slice (some ⟨w.heap.size + 1 + 1, 0, none⟩) d d)) ∧ Below w.heap.size w W)
    (fun _ _ _ => False)
    (OwnFrom.and (OwnFrom.and (rowIs_ownF _ _ _ _ _) (OwnFrom.and (rowIs_ownF _ _ _ _ _) (OwnFrom.and (rowIs_ownF _ _ _ _ _) (rowIs_ownF _ _ _ _ _)))) (ownFrom_below (Nat.le_refl _) (by omega)))
    (fun _ _ _ _ _ hs _ _ => hs)
    ⟨⟨rB, rowIs_congr rN (fun i hi => by show _ = Value.int .i64 ((m / 2 ^ 0 : Nat) : Int); simp), rowIs_congr rR (fun i hi => rfl), rO⟩, hB0⟩
    (fun x a' W => a' = { tmps := #[.int .i64 2, .int .i64 (d : Int), .int .i64 (m : Int), .pointer (some ⟨w.heap.size, 0, none⟩), undef, .pointer (some ⟨w.heap.size + 1, 0, none⟩), .slice none 0 0, .pointer (some ⟨w.heap.size + 1 + 1 + 1, 0, none⟩), .int .i64 (x.1.val : Int), .int .i64 (d : Int), .slice (some ⟨w.heap.size + 1 + 1, 0, none⟩) d d, .slice (some ⟨w.heap.size + 1 + 1, 0, none⟩) d d, .func (.func 65) #[] #[.pointer (some ⟨w.heap.size + 1 + 1 + 1 + 1, 0, none⟩)], .int .i64 (x.1.val : Int), x.2, undef, undef, undef, undef, undef, undef, undef, undef, undef, undef], defers := [] })
    (fun x a' _ X Y row hs hg hr => hs)
    ?assign ?body ?done ?stop
  case assign =>
    rintro l pre x W K hI hK
    simp only [encB]
    gi_wp2
    exact hK _ _ (KeepsFrom.refl _ _) (KpD.refl _ _ _ _) hI rfl
  case body =>
    rintro l pre x a' W hl - ⟨⟨r0, r1, r2, r3⟩, hB⟩ rfl hlt
    have c0 := r0.cell (i := 0) (by decide)
    have c1 := r1.cell (i := 0) (by decide)
    have c3 := r3.cell (i := 0) (by decide)
    have f1 := r1.frozen 0
    have c2 := r2.cell (i := x.1.val) x.1.isLt
    have f2 := r2.frozen x.1.val
    have l0 := r0.lt
    have l1 := r1.lt
    have l2 := r2.lt
    have l3 := r3.lt
    have hxd := x.1.isLt
    obtain ⟨⟨k, hk⟩, v⟩ := x
    simp only at c2 f2 hxd ⊢
    obtain ⟨a, ha⟩ : ∃ a, m / 2 ^ (digS m pre).1 = a := ⟨_, rfl⟩
    rw [ha] at c1
    have haH := Lib.hid ha
    have h0 := Lib.hid r0
    have h1' := Lib.hid r1
    have h2 := Lib.hid r2
    have h3 := Lib.hid r3
    have ham : a ≤ 1000 := by rw [← ha]; exact Nat.le_trans (Nat.div_le_self _ _) hm
    clear r0 r1 r2 r3 ha
    gi_wp2
    refine wpIn_region_ordR [(0, .q), (1, .q), (2, .q), (3, .q), (4, .q), (5, .q), (6, .b)] (by kernel_rfl) (by kernel_rfl) (by kernel_rfl) ?_
    simp only [pick, List.filterMap_cons, List.filterMap_nil, List.getElem?_toArray, List.getElem?_cons_zero, List.getElem?_cons_succ, Option.map_some]
    repeat (first | ((with_reducible refine wpD_p (fun K hK => ?_)); go_simp; refine hK _ ?_; clear hK K) | ((with_reducible refine wpD_q (fun K hK => ?_)); go_simp; (first | refine hK _ ?_ | (go_bits; refine hK _ ?_) | (go_bits; go_simp; refine hK _ ?_)); clear hK K))
    with_reducible refine wpD_b (fun K hK => ?_)
    go_simp
    refine hK _ _ ?_
    clear hK K
    repeat (first | ((with_reducible refine wpD_p (fun K hK => ?_)); go_simp; refine hK _ ?_; clear hK K) | ((with_reducible refine wpD_q (fun K hK => ?_)); go_simp; (first | refine hK _ ?_ | (go_bits; refine hK _ ?_) | (go_bits; go_simp; refine hK _ ?_)); clear hK K))
    with_reducible refine wpD_nil ?_
    have hmod : Int.tmod (a : Int) 2 = ((a % 2 : Nat) : Int) := rfl
    have hdiv : Int.tdiv (a : Int) 2 = ((a / 2 : Nat) : Int) := rfl
    rw [hmod]
    gi_wp2
    have e1 : (digS m (pre ++ [((⟨k, hk⟩, v) : BkT d)])).1 = (digS m pre).1 + 1 := by rw [digS_snoc]
    have e2 : ∀ i, (digS m (pre ++ [((⟨k, hk⟩, v) : BkT d)])).2 i = if i = k then a % 2 else (digS m pre).2 i := fun i => by rw [digS_snoc, haH.out]
    have e3 : m / 2 ^ ((digS m pre).1 + 1) = a / 2 := by rw [Nat.pow_succ, ← Nat.div_div_eq_div_mul, haH.out]
    have s2 := (h2.out.set k (.int .i64 ((a % 2 : Nat) : Int)))
    have s0 : ((W.setCell ⟨w.heap.size + 1 + 1, k, none⟩ (.int .i64 ((a % 2 : Nat) : Int))).setCell ⟨w.heap.size + 1, 0, none⟩ (.int .i64 ((a / 2 : Nat) : Int))).rowIs w.heap.size 2 1 (fun _ => .int .i64 2) := (h0.out.of_block (Below.heap_setCell _ _ _ _ (show w.heap.size ≠ w.heap.size + 1 + 1 by omega))).of_block (Below.heap_setCell _ _ _ _ (show w.heap.size ≠ w.heap.size + 1 by omega))
    have s1 : ((W.setCell ⟨w.heap.size + 1 + 1, k, none⟩ (.int .i64 ((a % 2 : Nat) : Int))).setCell ⟨w.heap.size + 1, 0, none⟩ (.int .i64 ((a / 2 : Nat) : Int))).rowIs (w.heap.size + 1) 2 1 (fun i => if i = 0 then .int .i64 ((a / 2 : Nat) : Int) else .int .i64 ((m / 2 ^ (digS m pre).1 : Nat) : Int)) := (h1'.out.of_block (Below.heap_setCell _ _ _ _ (show w.heap.size + 1 ≠ w.heap.size + 1 + 1 by omega))).set 0 _
    have s2' := s2.of_block (Below.heap_setCell (W.setCell ⟨w.heap.size + 1 + 1, k, none⟩ (.int .i64 ((a % 2 : Nat) : Int))) ⟨w.heap.size + 1, 0, none⟩ (.int .i64 ((a / 2 : Nat) : Int)) _ (show w.heap.size + 1 + 1 ≠ w.heap.size + 1 by omega))
    have s3 : ((W.setCell ⟨w.heap.size + 1 + 1, k, none⟩ (.int .i64 ((a % 2 : Nat) : Int))).setCell ⟨w.heap.size + 1, 0, none⟩ (.int .i64 ((a / 2 : Nat) : Int))).rowIs (w.heap.size + 1 + 1 + 1) 55 1 (fun _ => .slice (some ⟨w.heap.size + 1 + 1, 0, none⟩) d d) := (h3.out.of_block (Below.heap_setCell _ _ _ _ (show w.heap.size + 1 + 1 + 1 ≠ w.heap.size + 1 + 1 by omega))).of_block (Below.heap_setCell _ _ _ _ (show w.heap.size + 1 + 1 + 1 ≠ w.heap.size + 1 by omega))
    refine ⟨⟨by simp, fun q o hq ho _ => ?_⟩, ⟨fun cs t hcs => ?_, fun f hf => ⟨_, s2'⟩, by simp⟩, ⟨s0, rowIs_congr s1 (fun i hi => ?_), rowIs_congr s2' (fun i hi => ?_), s3⟩, ?_⟩
    · exact ((Below.heap_setCell _ _ _ _ (show q ≠ w.heap.size + 1 by omega)).trans (Below.heap_setCell _ _ _ _ (show q ≠ w.heap.size + 1 + 1 by omega))).trans ho
    · exact ((Below.heap_setCell _ _ _ _ (show w.heap.size + 1 + 1 + 1 + 1 ≠ w.heap.size + 1 by omega)).trans (Below.heap_setCell _ _ _ _ (show w.heap.size + 1 + 1 + 1 + 1 ≠ w.heap.size + 1 + 1 by omega))).trans hcs
    · obtain rfl : i = 0 := by omega
      rw [if_pos rfl, e1, e3]
    · rw [e2]
      by_cases hik : i = k
      · rw [if_pos hik, if_pos hik]
      · rw [if_neg hik, if_neg hik]
    · exact ((hB.setCell (p := ⟨w.heap.size + 1 + 1, k, none⟩) (show w.heap.size ≤ w.heap.size + 1 + 1 by omega) _).setCell (p := ⟨w.heap.size + 1, 0, none⟩) (show w.heap.size ≤ w.heap.size + 1 by omega) _).drew
  case done =>
    rintro D ys W hD hS ⟨⟨r0, r1, r2, r3⟩, hB⟩ hK
    have c3 := r3.cell (i := 0) (by decide)
    have l3 := r3.lt
    have hS2 := (digS_at m d ys (Nat.le_refl _) hS).2
    gi_wp2
    refine ⟨by simp, .inl ⟨_, _, rfl, run_takeDeferred hK, ?_⟩⟩
    refine ⟨_, results_tmp rfl _ _ _, w.heap.size + 1 + 1, rfl, by omega, ?_, hB.trans (belowK_b (w := w) (Nat.le_refl _) W D _ _ (by omega) hK rfl rfl)⟩
    refine rowIs_congr (r2.of_block (World.putObj_heap_other (fun e => ?_))) (fun i hi => by rw [hS2 i hi (by omega)])
    subst e
    obtain ⟨cur, hh, _⟩ := r2
    rw [hK] at hh; cases hh
  case stop =>
    rintro D c pre W _ _ h _
    exact h.elim
theorem digitsOf_any (d m : Nat) (w : World) (hd : 1 ≤ d ∧ d ≤ 5) (hm : m ≤ 1000) :
    Calls Tryz.prog 37 #[.int .i64 2, .int .i64 (d : Int), .int .i64 (m : Int)] w fun e W' => ∃ g, e = .returned (.slice (some ⟨g, 0, none⟩) d d) ∧ w.heap.size ≤ g ∧ W'.rowIs g 2 d (fun i => .int .i64 ((m / 2 ^ (d - 1 - i) % 2 : Nat) : Int)) ∧ Below w.heap.size w W' :=
  callsIn_wide.1 (digitsOf_in 3 d m w hd hm (Nat.le_refl _))
end Go.Proofs.YtpnahobgmemdjaaGreatDoor
