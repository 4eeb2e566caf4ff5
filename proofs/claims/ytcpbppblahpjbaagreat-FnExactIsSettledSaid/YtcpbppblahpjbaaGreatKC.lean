import Derived.Test.YtcpbppblahpjbaaGreatBase2
import Derived.Test.YtcpbppblahpjbaaGreatP1
import Derived.Test.YtcpbppblahpjbaaGreatW15
import Derived.Test.YtcpbppblahpjbaaGreatW20a
import Derived.Test.YtcpbppblahpjbaaGreatW11
import Derived.Test.YtcpbppblahpjbaaGreatW17a
import Derived.Test.YtcpbppblahpjbaaGreatHTo
import Derived.Lib.LazyBuf
import Derived.Lib.SliceRun
import Derived.Maps.AppendAt
import Derived.Deep.CutRange
import Derived.Test.YtcpbppblahpjbaaGreatW8
import Derived.Test.YtcpbppblahpjbaaGreatOrd
import Derived.Test.YtcpbppblahpjbaaGreatHMk
import Derived.Maps.OwnSet
import Derived.Maps.RangeWalk
import Derived.MapViews
import Derived.DeepKeys4
import Derived.Test.YtcpbppblahpjbaaGreatKT
import Derived.Maps.Ext
import Derived.Test.YtcpbppblahpjbaaGreatN1
import Derived.Test.YtcpbppblahpjbaaGreatKS
import Derived.Test.YtcpbppblahpjbaaGreatF4
/- Words on rows of points; a point put to its place in a list. -/


namespace Go.Proofs.YtcpbppblahpjbaaGreat
open Go.RowKit
set_option linter.unusedSimpArgs false
set_option linter.unusedVariables false
structure Pt where
  x : Int
  y : Int
  deriving DecidableEq, Inhabited
def RPt (w : World) (b o : Nat) (e : Pt) : Prop := w.cell? ⟨b, o, none⟩ = some (.int .i64 e.x) ∧ w.cell? ⟨b, o + 1, none⟩ = some (.int .i64 e.y)
theorem RPt.stable : Stable RPt := fun _ _ _ _ _ h hb hw => ⟨(hw.cell (by exact hb)).trans h.1, (hw.cell (by exact hb)).trans h.2⟩
theorem RPt.stableAt (lo : Nat) : StableAt lo RPt := fun w _ b o _ h hlo hb hk =>
  ⟨(World.cell?_of_block (w := w) (a := ⟨b, o, none⟩) (hk b hlo hb)).trans h.1, (World.cell?_of_block (w := w) (a := ⟨b, o + 1, none⟩) (hk b hlo hb)).trans h.2⟩
def ptCells : List Pt → List Value
  | [] => []
  | b :: l => .int .i64 b.x :: .int .i64 b.y :: ptCells l
theorem ptCells_len (l : List Pt) : (ptCells l).length = l.length * 2 := by
  induction l with
  | nil => rfl
  | cons b l ih => simp only [ptCells, List.length_cons, ih]; omega
theorem ptCells_snoc (l : List Pt) (b : Pt) : ptCells (l ++ [b]) = ptCells l ++ [.int .i64 b.x, .int .i64 b.y] := by
  induction l with
  | nil => rfl
  | cons a l ih => simp [ptCells, ih]
theorem ptCells_one (bs : List Pt) : ∀ u ∈ ptCells bs, u.oneCell' = true := by
  induction bs with
  | nil => simp [ptCells]
  | cons b l ih =>
    intro u hu
    simp only [ptCells, List.mem_cons] at hu
    rcases hu with rfl | rfl | hu
    · rfl
    · rfl
    · exact ih u hu
theorem ptCells_get : ∀ (bs : List Pt) (k : Nat) (e : Pt), bs[k]? = some e → (ptCells bs)[k * 2]? = some (.int .i64 e.x) ∧ (ptCells bs)[k * 2 + 1]? = some (.int .i64 e.y)
  | [], k, e, h => by simp at h
  | b :: bs, 0, e, h => by
    simp at h
    subst h
    simp [ptCells]
  | b :: bs, k + 1, e, h => by
    have := ptCells_get bs k e (by simpa using h)
    have h3 : (k + 1) * 2 = k * 2 + 1 + 1 := by omega
    rw [h3]
    simpa [ptCells, Nat.add_assoc] using this
theorem ptCells_set : ∀ (bs : List Pt) (k : Nat) (x y : Int), k < bs.length → ((ptCells bs).set (k * 2) (.int .i64 x)).set (k * 2 + 1) (.int .i64 y) = ptCells (bs.set k ⟨x, y⟩)
  | [], k, x, y, h => by simp at h
  | b :: bs, 0, x, y, h => by simp [ptCells]
  | b :: bs, k + 1, x, y, h => by
    have := ptCells_set bs k x y (by simpa using h)
    have h3 : (k + 1) * 2 = k * 2 + 1 + 1 := by omega
    rw [h3]
    simpa [ptCells, Nat.add_assoc] using this
theorem rdPt_of_row {W : World} {base : Nat} {T : TypeId} {v : Value} {bs : List Pt} (h : W.ownsRow base T 2 v bs.length (ptCells bs)) : ∃ A cap, v = .slice A bs.length cap ∧ RdSl 2 RPt W A bs.length bs := by
  rcases h.2 with ⟨rfl, h0⟩ | ⟨g, cap, cur, rfl, hb, hh, hn, hm, hs, ht⟩
  · exact ⟨none, 0, by rw [h0], rfl, fun hp => by omega⟩
  · refine ⟨_, cap, rfl, rfl, fun hp => ⟨g, 0, rfl, (Array.getElem?_eq_some_iff.1 hh).1, fun k hk => ?_⟩⟩
    have hg := ptCells_get bs k _ (List.getElem?_eq_getElem hk)
    rw [← ht] at hg
    have hcell : ∀ j u, (cur.toList.take (bs.length * 2))[j]? = some u → W.cell? ⟨g, j, none⟩ = some u := fun j u hj => by
      rw [List.getElem?_take] at hj
      split at hj
      · simp only [World.cell?, hh]
        simpa using hj
      · cases hj
    rw [Nat.zero_add]
    exact ⟨hcell _ _ hg.1, hcell _ _ hg.2⟩
/-- the place of a point in a list in order, seen from place a on downwards -/
def putAt (L : List Pt) (x y : Int) : Nat → Nat
  | 0 => 0
  | a + 1 => match L[a]? with
    | none => a + 1
    | some e => if lessPt e.x e.y x y = true then a + 1 else putAt L x y a
/-- a point put to its place in a list in order, once -/
def putP (L : List Pt) (x y : Int) : List Pt :=
  let a := putAt L x y L.length
  if L[a]? = some ⟨x, y⟩ then L else L.take a ++ ⟨x, y⟩ :: L.drop a
theorem putAt_le (L : List Pt) (x y : Int) : ∀ a, putAt L x y a ≤ a
  | 0 => Nat.le_refl _
  | a + 1 => by
    unfold putAt
    split
    · exact Nat.le_refl _
    · split
      · exact Nat.le_refl _
      · exact Nat.le_trans (putAt_le L x y a) (Nat.le_succ _)
theorem putAt_stop {L : List Pt} {x y : Int} {a : Nat} {e : Pt} (h : L[a]? = some e) (hl : lessPt e.x e.y x y = true) : putAt L x y (a + 1) = a + 1 := by
  simp only [putAt, h]; rw [if_pos hl]
theorem putAt_go {L : List Pt} {x y : Int} {a : Nat} {e : Pt} (h : L[a]? = some e) (hl : lessPt e.x e.y x y = false) : putAt L x y (a + 1) = putAt L x y a := by
  simp only [putAt, h]; rw [if_neg (by rw [hl]; decide)]
theorem putP_there {L : List Pt} {x y : Int} {a : Nat} (h : putAt L x y L.length = a) (he : L[a]? = some ⟨x, y⟩) : putP L x y = L := by
  unfold putP; simp only [h]; rw [if_pos he]
theorem putP_new {L : List Pt} {x y : Int} {a : Nat} (h : putAt L x y L.length = a) (he : ¬ L[a]? = some ⟨x, y⟩) : putP L x y = L.take a ++ ⟨x, y⟩ :: L.drop a := by
  unfold putP; simp only [h]; rw [if_neg he]
theorem putP_mem {L : List Pt} {x y : Int} {e : Pt} : e ∈ putP L x y ↔ e ∈ L ∨ e = ⟨x, y⟩ := by
  unfold putP
  simp only []
  split
  · rename_i h
    constructor
    · exact Or.inl
    · rintro (h1 | rfl)
      · exact h1
      · exact List.mem_of_getElem? h
  · have := List.take_append_drop (putAt L x y L.length) L
    constructor
    · intro h
      simp only [List.mem_append, List.mem_cons] at h
      rcases h with h | h | h
      · exact Or.inl (List.mem_of_mem_take h)
      · exact Or.inr h
      · exact Or.inl (List.mem_of_mem_drop h)
    · intro h
      simp only [List.mem_append, List.mem_cons]
      rcases h with h | h
      · rw [← this, List.mem_append] at h
        rcases h with h | h
        · exact Or.inl h
        · exact Or.inr (Or.inr h)
      · exact Or.inr (Or.inl h)
theorem putP_len (L : List Pt) (x y : Int) : (putP L x y).length ≤ L.length + 1 := by
  unfold putP
  simp only []
  split
  · omega
  · simp only [List.length_append, List.length_cons, List.length_take, List.length_drop]; omega
/-- how the list stands when the elements from place i on were shifted -/
theorem putP_shift {L ys : List Pt} {x y : Int} {a : Nat} (ha : a ≤ L.length) (hl : ys.length = L.length + 1) (h1 : ∀ j, j < a → ys[j]? = L[j]?) (h2 : ∀ j, a < j → j ≤ L.length → ys[j]? = L[j - 1]?) : ys.set a ⟨x, y⟩ = L.take a ++ ⟨x, y⟩ :: L.drop a := by
  apply List.ext_getElem?
  intro j
  have hta : (L.take a).length = a := by rw [List.length_take]; omega
  rcases Nat.lt_trichotomy j a with h | rfl | h
  · rw [List.getElem?_set_ne (by omega), List.getElem?_append_left (by omega), List.getElem?_take, if_pos h, h1 j h]
  · rw [List.getElem?_set_self (by omega), List.getElem?_append_right (by omega), hta, Nat.sub_self]; rfl
  · rw [List.getElem?_set_ne (by omega), List.getElem?_append_right (by omega), hta]
    obtain ⟨d, rfl⟩ : ∃ d, j = a + 1 + d := ⟨j - a - 1, by omega⟩
    have : a + 1 + d - a = d + 1 := by omega
    rw [this, List.getElem?_cons_succ, List.getElem?_drop]
    rcases Nat.lt_or_ge L.length (a + 1 + d) with hh | hh
    · rw [List.getElem?_eq_none (by omega), List.getElem?_eq_none (by omega)]
    · rw [h2 _ h hh]; congr 1; omega
theorem cell_pt2 (w : World) (a b : Value) (t : TypeId) : ∀ j u, [a, b][j]? = some u → (w.alloc (.cells #[a, b] t)).cell? ((⟨w.heap.size, 0, none⟩ : Addr).add j) = some u := by
  intro j u hj
  match j, hj with
  | 0, hj => simp at hj; subst hj; simp [Addr.add]
  | 1, hj => simp at hj; subst hj; simp [Addr.add]
end Go.Proofs.YtcpbppblahpjbaaGreat
/- Walk: a point put to its place in a list, the reference. -/










namespace Go.Proofs.YtcpbppblahpjbaaGreat
open Go.RowKit Go.Shelf
set_option linter.unusedSimpArgs false
set_option linter.unusedVariables false
attribute [local go_sem] BelowBy.cell BelowBy.cell_drew stillUpon givesUpon BelowBy.cell_drew2 BelowBy.cell_drew3

theorem infoPtt : (Tryz.prog.info? 80).map (fun i => (i.zero, i.size, i.bytes)) = some (some (.agg #[.int .i64 0, .int .i64 0]), 2, 16) := by kernel_rfl
theorem row_block {w : World} {base size n c : Nat} {e : TypeId} {A : Option Addr} {xs : List Value} (h : w.ownsRow base e size (.slice A n c) n xs) (hn : 0 < n) : ∃ b, A = some ⟨b, 0, none⟩ ∧ base ≤ b ∧ b < w.heap.size := by
  rcases h.2 with ⟨_, h0⟩ | ⟨b, cap, cur, hv, hb, hg, _⟩
  · omega
  · injection hv with h1 h2 h3
    exact ⟨b, h1, hb, (Array.getElem?_eq_some_iff.1 hg).1⟩
set_option maxRecDepth 100000 in
set_option maxHeartbeats 4000000 in
theorem l08PutPoint_any {base : Nat} {v : Value} {L : List Pt} {x y : Int} {w : World} (hrow : w.ownsRow base 80 2 v L.length (ptCells L)) (hbase : base ≤ w.heap.size) (hL : L.length ≤ 100000) :
    Calls Tryz.prog 186 #[v, .agg #[.int .i64 x, .int .i64 y]] w fun e w' => ∃ v', e = .returned v' ∧ w'.ownsRow base 80 2 v' (putP L x y).length (ptCells (putP L x y)) ∧ Below base w w' := by
  obtain ⟨i0, hi, hz0, hz1, hz2⟩ := info_parts infoPtt
  obtain ⟨A, cp, rfl, hrd⟩ := rdPt_of_row hrow
  have hrowH := Lib.hid hrow
  clear hrow hrd
  obtain ⟨n, hn⟩ : ∃ n, L.length = n := ⟨_, rfl⟩
  rw [hn] at hrowH hL ⊢
  have hnH := Lib.hid hn
  clear hn
  go_enter Tryz.func186, Tryz.ntmps186
  go_wp2
  go_loopg [5] n (fun gg c wr => ∃ g : Nat, g = gg ∧ c = .int .i64 (g : Int) ∧ g ≤ n ∧ Hid (putAt L x y n = putAt L x y g) ∧ Hid (wr.ownsRow base 80 2 (.slice A n cp) n (ptCells L)) ∧ Hid (Below w.heap.size w wr) ∧ wr.cell? ⟨w.heap.size, 0, none⟩ = some (.int .i64 x) ∧ wr.cell? ⟨w.heap.size, 1, none⟩ = some (.int .i64 y) ∧ w.heap.size < wr.heap.size)
  case atStart => exact ⟨n, rfl, rfl, Nat.le_refl _, Lib.hid rfl, Lib.hid (hrowH.out.alloc _), Lib.hid (by repeat (first | with_reducible exact bl_refl _ | with_reducible assumption | with_reducible refine bl_al ?_ _ | with_reducible refine bl_dr ?_ | with_reducible refine bl_tr ?_ (by assumption) | with_reducible refine bl_set ?_ ?_ _ | with_reducible exact Nat.le_refl _ | omega | (simp only [World.size_alloc, World.size_setCell, World.size_drew] at *; omega) | (dsimp only; omega) | (simp; done) | (simp; omega))), by go_simp, by go_simp, by simp⟩
  case round =>
    obtain ⟨g, rfl, rfl, hgn, hpa, hrw, hbw, x0, x1, hsz⟩ := hrel
    by_cases hgo : ∃ (g' : Nat) (e : Pt), g = g' + 1 ∧ L[g']? = some e ∧ lessPt e.x e.y x y = false
    · obtain ⟨g', e, hg', he, hl⟩ := hgo
      obtain ⟨b, hv, hb1, hb2⟩ := row_block hrw.out (by omega)
      cases hv
      have hgN : 0 < g := by omega
      have hgI : (0 : Int) < (g : Int) := by omega
      have hgm : (g : Int) - 1 = (g' : Int) := by omega
      have hwr : IntKind.i64.wrap (g' : Int) = (g' : Int) := wrap_in (by omega) (by omega)
      have hgl : g' < n := by omega
      have hgl2 : (g' : Int) < (n : Int) := by omega
      obtain ⟨p0, p1⟩ := ptCells_get L g' e he
      have c0 := (hrw.out.cellAt (g' * 2) (by omega)).trans p0
      have c1 := (hrw.out.cellAt (g' * 2 + 1) (by omega)).trans p1
      have hlH := Lib.hid hl
      have hnx := Lib.hid (show putAt L x y g = putAt L x y g' by rw [hg']; exact putAt_go he hl)
      have hgH := Lib.hid hg'
      clear hl he p0 p1 hg'
      go_wp2
      refine wp_region_ord [(0, .q), (1, .q), (2, .q), (3, .q), (4, .q), (5, .q), (6, .q), (7, .q), (8, .q), (9, .g), (10, .q), (11, .q)] (by kernel_rfl) (by kernel_rfl) ?_
      simp only [pick, List.filterMap_cons, List.filterMap_nil, List.getElem?_toArray, List.getElem?_cons_zero, List.getElem?_cons_succ, Option.map_some]
      repeat (first
        | ((with_reducible refine wpD_p (fun K hK => ?_)); go_simp; refine hK _ ?_; clear hK K)
        | ((with_reducible refine wpD_q (fun K hK => ?_)); go_simp; (first | refine hK _ ?_ | (go_bits; refine hK _ ?_) | (go_bits; go_simp; refine hK _ ?_)); clear hK K)
        | ((with_reducible refine wpD_g (fun K hK => ?_)); go_simp; refine hK _ _ ?_; clear hK K)
        | ((with_reducible refine wpD_g (fun K hK => ?_)); go_simp; refine ⟨Grew.of_alloc _, hK _ _ ?_⟩; clear hK K)
        | ((with_reducible refine wpD_g (fun K hK => ?_)); go_simp; refine ⟨Below.refl _ _, hK _ _ ?_⟩; clear hK K)
        | ((with_reducible refine wpD_g (fun K hK => ?_)); go_simp; go_at_call 189; refine (sLessPoint_at hlH.out).mono ?_; rintro e w1 ⟨rfl, hb⟩; refine ⟨_, rfl, hb, hK _ _ ?_⟩; clear hK K; obtain ⟨chb, fhb, shb, thb⟩ := bcell hb))
      with_reducible refine wpD_nil ?_
      go_wp2
      go_roundg g'
      case measure => have := hgH.out; omega
      case rel => exact ⟨g', rfl, by go_num, by omega, Lib.hid (hpa.out.trans hnx.out), Lib.hid (ownsRow_below hrw.out.drew hb), Lib.hid (bl_tr (bl_dr hbw.out) hb), (hb.cell (p := ⟨w.heap.size, 0, none⟩) (by simpa using hsz)).trans (by go_simp), (hb.cell (p := ⟨w.heap.size, 1, none⟩) (by simpa using hsz)).trans (by go_simp), Nat.lt_of_lt_of_le hsz (by have := hb.size; simpa using this)⟩
    · have hst : g = 0 ∨ ∃ (g' : Nat) (e : Pt), g = g' + 1 ∧ L[g']? = some e ∧ lessPt e.x e.y x y = true := by
        rcases Nat.eq_zero_or_pos g with h | h
        · exact Or.inl h
        · obtain ⟨e, he⟩ : ∃ e, L[g - 1]? = some e := ⟨_, List.getElem?_eq_getElem (by rw [hnH.out]; omega)⟩
          refine Or.inr ⟨g - 1, e, by omega, he, ?_⟩
          cases hh : lessPt e.x e.y x y
          · exact (hgo ⟨g - 1, e, by omega, he, hh⟩).elim
          · rfl
      have hat : putAt L x y L.length = g := by
        rw [hnH.out, hpa.out]
        rcases hst with h | ⟨g', e, h, he, hl⟩
        · rw [h]; rfl
        · rw [h]; exact putAt_stop he hl
      have hatH := Lib.hid hat
      have hownb : ∀ b, Value.ownBlock (.slice A n cp) = some b → base ≤ b ∧ b < w.heap.size := fun b hb => hrowH.out.lt b hb
      have hownbH := Lib.hid hownb
      clear hat hgo hownb
      rcases hst with h0 | ⟨g', e, hg', he, hl⟩
      · have hgN : ¬ 0 < g := by omega
        have hgI : ¬ (0 : Int) < (g : Int) := by omega
        have h0H := Lib.hid h0
        clear h0
        go_wp2
        refine wp_region_ord [(0, .q), (1, .q), (2, .q), (3, .q), (4, .q), (5, .q), (6, .q), (7, .q), (8, .q), (9, .g), (10, .q), (11, .q)] (by kernel_rfl) (by kernel_rfl) ?_
        simp only [pick, List.filterMap_cons, List.filterMap_nil, List.getElem?_toArray, List.getElem?_cons_zero, List.getElem?_cons_succ, Option.map_some]
        repeat (first
          | ((with_reducible refine wpD_p (fun K hK => ?_)); go_simp; refine hK _ ?_; clear hK K)
          | ((with_reducible refine wpD_q (fun K hK => ?_)); go_simp; (first | refine hK _ ?_ | (go_bits; refine hK _ ?_) | (go_bits; go_simp; refine hK _ ?_)); clear hK K)
          | ((with_reducible refine wpD_g (fun K hK => ?_)); go_simp; refine hK _ _ ?_; clear hK K)
          | ((with_reducible refine wpD_g (fun K hK => ?_)); go_simp; refine ⟨Grew.of_alloc _, hK _ _ ?_⟩; clear hK K)
          | ((with_reducible refine wpD_g (fun K hK => ?_)); go_simp; refine ⟨Below.refl _ _, hK _ _ ?_⟩; clear hK K))
        with_reducible refine wpD_nil ?_
        have hrwW := Lib.hid hrw.out.drew
        have hbW := Lib.hid (bl_dr hbw.out)
        have z0 : wr.drew.cell? ⟨w.heap.size, 0, none⟩ = some (.int .i64 x) := by go_simp
        have z1 : wr.drew.cell? ⟨w.heap.size, 1, none⟩ = some (.int .i64 y) := by go_simp
        have hsW : w.heap.size < wr.drew.heap.size := by simpa using hsz
        clear x0 x1 hsz hrw hbw hgI hgN
        generalize wr.drew = W at *
        go_wp2
        by_cases hth : L[g]? = some ⟨x, y⟩
        · have hgn2 : g < n := by rw [← hnH.out]; exact lt_of_get hth
          have hgnI : (g : Int) < (n : Int) := by omega
          obtain ⟨b2, hv, hb1, hb2⟩ := row_block hrwW.out (by omega)
          cases hv
          obtain ⟨p0, p1⟩ := ptCells_get L g _ hth
          have c0 := (hrwW.out.cellAt (g * 2) (by omega)).trans p0
          have c1 := (hrwW.out.cellAt (g * 2 + 1) (by omega)).trans p1
          have hPT := Lib.hid (putP_there hatH.out hth)
          clear hth p0 p1
          refine wp_region_ord [(0, .q), (1, .q), (2, .q), (3, .q), (4, .q), (5, .q), (6, .q), (7, .q), (8, .q), (9, .q), (10, .q), (11, .q)] (by kernel_rfl) (by kernel_rfl) ?_
          simp only [pick, List.filterMap_cons, List.filterMap_nil, List.getElem?_toArray, List.getElem?_cons_zero, List.getElem?_cons_succ, Option.map_some]
          repeat (first
            | ((with_reducible refine wpD_p (fun K hK => ?_)); go_simp; refine hK _ ?_; clear hK K)
            | ((with_reducible refine wpD_q (fun K hK => ?_)); go_simp; (first | refine hK _ ?_ | (go_bits; refine hK _ ?_) | (go_bits; go_simp; refine hK _ ?_)); clear hK K)
            | ((with_reducible refine wpD_g (fun K hK => ?_)); go_simp; refine hK _ _ ?_; clear hK K)
            | ((with_reducible refine wpD_g (fun K hK => ?_)); go_simp; refine ⟨Grew.of_alloc _, hK _ _ ?_⟩; clear hK K)
            | ((with_reducible refine wpD_g (fun K hK => ?_)); go_simp; refine ⟨Below.refl _ _, hK _ _ ?_⟩; clear hK K))
          with_reducible refine wpD_nil ?_
          go_wp2
          go_ret
          exact ⟨_, rfl, by rw [hPT.out, hnH.out]; exact hrwW.out.drew, (bl_dr hbW.out).mono hbase⟩
        · have hPN := Lib.hid (putP_new hatH.out hth)
          have hth2 : g = n ∨ ∃ e2 : Pt, g < n ∧ L[g]? = some e2 ∧ ((e2.x == x) = false ∨ ((e2.x == x) = true ∧ (e2.y == y) = false)) := by
            rcases Nat.lt_or_ge g n with h | h
            · obtain ⟨e2, he2⟩ : ∃ e, L[g]? = some e := ⟨_, List.getElem?_eq_getElem (by rw [hnH.out]; exact h)⟩
              refine Or.inr ⟨e2, h, he2, ?_⟩
              cases hh : (e2.x == x)
              · exact Or.inl rfl
              · cases hh2 : (e2.y == y)
                · exact Or.inr ⟨rfl, rfl⟩
                · exact (hth (by rw [he2, ← beq_iff_eq.1 hh, ← beq_iff_eq.1 hh2])).elim
            · exact Or.inl (by omega)
          clear hth
          rcases hth2 with hgn2 | ⟨e2, hgn2, he2, hne⟩
          · have hgnN : ¬ g < n := by omega
            have hgnI : ¬ (g : Int) < (n : Int) := by omega
            have hgn2H := Lib.hid hgn2
            clear hgn2
            refine wp_region_ord [(0, .q), (1, .q), (2, .q), (3, .q), (4, .q), (5, .q), (6, .q), (7, .q), (8, .q), (9, .q), (10, .q), (11, .q)] (by kernel_rfl) (by kernel_rfl) ?_
            simp only [pick, List.filterMap_cons, List.filterMap_nil, List.getElem?_toArray, List.getElem?_cons_zero, List.getElem?_cons_succ, Option.map_some]
            repeat (first
              | ((with_reducible refine wpD_p (fun K hK => ?_)); go_simp; refine hK _ ?_; clear hK K)
              | ((with_reducible refine wpD_q (fun K hK => ?_)); go_simp; (first | refine hK _ ?_ | (go_bits; refine hK _ ?_) | (go_bits; go_simp; refine hK _ ?_)); clear hK K)
              | ((with_reducible refine wpD_g (fun K hK => ?_)); go_simp; refine hK _ _ ?_; clear hK K)
              | ((with_reducible refine wpD_g (fun K hK => ?_)); go_simp; refine ⟨Grew.of_alloc _, hK _ _ ?_⟩; clear hK K)
              | ((with_reducible refine wpD_g (fun K hK => ?_)); go_simp; refine ⟨Below.refl _ _, hK _ _ ?_⟩; clear hK K))
            with_reducible refine wpD_nil ?_
            clear hgnN hgnI
            go_upto_region 7 with (at_builtin; refine wpList_append_own_at _ rfl _ _ 101 rfl base 80 i0 (.agg #[.int .i64 0, .int .i64 0]) 2 16 Tryz.underlying101 hi hz0 hz1 hz2 rfl (by decide) _ n (ptCells L) rfl (hrwW.out.drew.alloc _) ⟨W.drew.heap.size, 0, none⟩ 1 1 [.int .i64 x, .int .i64 y] rfl rfl (cell_pt2 _ _ _ _) (fun u hu => by simp at hu; rcases hu with rfl | rfl <;> rfl) (by unfold maxLen; omega) (by omega) (by simp; omega) ?_; intro v3 w3 hown3 hgrow _ hob)
            have hL1 : (L ++ [(⟨x, y⟩ : Pt)]).length = n + 1 := by rw [List.length_append, hnH.out]; rfl
            rw [show ptCells L ++ [Value.int .i64 x, Value.int .i64 y] = ptCells (L ++ [⟨x, y⟩]) from (ptCells_snoc L ⟨x, y⟩).symm] at hown3
            obtain ⟨b3, cap3, rfl⟩ := ownsRow_succ hown3
            have hne3 : b3 ≠ w.heap.size := by
              rcases hob with h | h
              · have := (hownbH.out b3 h.symm).2; omega
              · injection h with h; simp at h; omega
            have hlt3 := hown3.lt b3 rfl
            have hfar : Below base w w3 := by
              refine ((((bl_dr hbW.out).mono hbase).alloc (by simp; omega) _).grown hgrow (by simp; omega) (fun b' hb' => (hownbH.out b' hb').1))
            have u0 : w3.cell? ⟨w.heap.size, 0, none⟩ = some (.int .i64 x) := (World.cell?_of_block (a := ⟨w.heap.size, 0, none⟩) (hgrow.block w.heap.size (by simp; omega) (fun hh => by have := hownbH.out _ hh.symm; omega))).trans (by go_simp)
            have u1 : w3.cell? ⟨w.heap.size, 1, none⟩ = some (.int .i64 y) := (World.cell?_of_block (a := ⟨w.heap.size, 1, none⟩) (hgrow.block w.heap.size (by simp; omega) (fun hh => by have := hownbH.out _ hh.symm; omega))).trans (by go_simp)
            have s3 : w.heap.size < w3.heap.size := Nat.lt_of_lt_of_le hsW (by have := hgrow.size; simp at this; omega)
            have hownH3 := Lib.hid hown3
            have hfarH := Lib.hid hfar
            have hwn : IntKind.i64.wrap (n : Int) = (n : Int) := wrap_in (by omega) (by omega)
            generalize hN1 : n + 1 = N1 at *
            have hN1m : (N1 : Int) - 1 = (n : Int) := by omega
            clear hown3 hfar hgrow hob z0 z1
            go_wp2
            go_loopg [6] (n - g) (fun gg c wx => ∃ (i : Nat) (ys : List Pt), i = gg + g ∧ c = .int .i64 (i : Int) ∧ i ≤ n ∧ Hid (ys.length = N1 ∧ (∀ j, j < i → ys[j]? = L[j]?) ∧ (∀ j, i < j → j ≤ n → ys[j]? = L[j - 1]?)) ∧ Hid (wx.ownsRow base 80 2 (.slice (some ⟨b3, 0, none⟩) N1 cap3) N1 (ptCells ys)) ∧ Hid (Below base w wx) ∧ wx.cell? ⟨w.heap.size, 0, none⟩ = some (.int .i64 x) ∧ wx.cell? ⟨w.heap.size, 1, none⟩ = some (.int .i64 y) ∧ w.heap.size < wx.heap.size ∧ b3 < wx.heap.size)
            case atStart => exact ⟨n, L ++ [⟨x, y⟩], by omega, by go_num, Nat.le_refl _, Lib.hid ⟨hL1, fun j hj => List.getElem?_append_left (by rw [hnH.out]; exact hj), fun j h1 h2 => by omega⟩, hownH3, hfarH, u0, u1, s3, hlt3.2⟩
            case round =>
              obtain ⟨i, ys, hi2, rfl, hin, hys, hrx, hbx, y0, y1, hsx, hbx3⟩ := hrel
              have hi2H := Lib.hid hi2
              clear hi2
              clear u0 u1
              have n1 : ¬ b3 = w.heap.size := hne3
              have n2 : ¬ w.heap.size = b3 := fun h => hne3 h.symm
              by_cases hig : g < i
              · have higI : (g : Int) < (i : Int) := by omega
                obtain ⟨i', hi'⟩ : ∃ i', i = i' + 1 := ⟨i - 1, by omega⟩
                have him : (i : Int) - 1 = (i' : Int) := by omega
                have hwi : IntKind.i64.wrap (i' : Int) = (i' : Int) := wrap_in (by omega) (by omega)
                have hl1 : i < N1 := by omega
                have hl2 : i' < N1 := by omega
                have hl3 : (i : Int) < (N1 : Int) := by omega
                have hl4 : (i' : Int) < (N1 : Int) := by omega
                obtain ⟨e3, he3⟩ : ∃ e, ys[i']? = some e := ⟨_, List.getElem?_eq_getElem (by rw [hys.out.1]; omega)⟩
                obtain ⟨p0, p1⟩ := ptCells_get ys i' e3 he3
                have c0 := (hrx.out.cellAt (i' * 2) (by omega)).trans p0
                have c1 := (hrx.out.cellAt (i' * 2 + 1) (by omega)).trans p1
                have f0 := hrx.out.frozenAt (i * 2)
                have f1 := hrx.out.frozenAt (i * 2 + 1)
                obtain ⟨eo, heo⟩ : ∃ e, ys[i]? = some e := ⟨_, List.getElem?_eq_getElem (by rw [hys.out.1]; omega)⟩
                obtain ⟨r0, r1⟩ := ptCells_get ys i eo heo
                have d0 := (hrx.out.cellAt (i * 2) (by omega)).trans r0
                have d1 := (hrx.out.cellAt (i * 2 + 1) (by omega)).trans r1
                clear r0 r1 heo
                have he3H := Lib.hid he3
                have hi'H := Lib.hid hi'
                clear p0 p1 he3 hi'
                go_wp2
                go_roundg (i' - g)
                case measure => have := hi'H.out; have := hi2H.out; omega
                case rel => exact ⟨i', ys.set i ⟨e3.x, e3.y⟩, by have := hi'H.out; have := hi2H.out; omega, by go_num, by omega, Lib.hid ⟨by rw [List.length_set]; exact hys.out.1, fun j hj => by
                    have := hi'H.out
                    rw [List.getElem?_set_ne (by omega)]; exact hys.out.2.1 j (by omega), fun j h1 h2 => by
                    have := hi'H.out
                    rcases Nat.lt_or_ge i j with h3 | h3
                    · rw [List.getElem?_set_ne (by omega)]; exact hys.out.2.2 j h3 h2
                    · obtain rfl : j = i := by omega
                      rw [List.getElem?_set_self (by rw [hys.out.1]; omega), ← hys.out.2.1 (j - 1) (by omega), show j - 1 = i' by omega, he3H.out]⟩, Lib.hid (by
                    rw [← ptCells_set ys i e3.x e3.y (by rw [hys.out.1]; omega)]
                    exact ((hrx.out.stored (i * 2) _).1.stored (i * 2 + 1) _).1), Lib.hid ((hbx.out.setCell (p := ⟨b3, i * 2, none⟩) hlt3.1 _).setCell (p := ⟨b3, i * 2 + 1, none⟩) hlt3.1 _), by go_simp, by go_simp, by simp; omega, by simp; omega⟩
              · obtain rfl : i = g := by have := hi2H.out; omega
                have hl1 : i < N1 := by omega
                have hl3 : (i : Int) < (N1 : Int) := by omega
                have f0 := hrx.out.frozenAt (i * 2)
                have f1 := hrx.out.frozenAt (i * 2 + 1)
                obtain ⟨eo, heo⟩ : ∃ e, ys[i]? = some e := ⟨_, List.getElem?_eq_getElem (by rw [hys.out.1]; omega)⟩
                obtain ⟨r0, r1⟩ := ptCells_get ys i eo heo
                have d0 := (hrx.out.cellAt (i * 2) (by omega)).trans r0
                have d1 := (hrx.out.cellAt (i * 2 + 1) (by omega)).trans r1
                clear r0 r1 heo
                have hsh := Lib.hid (putP_shift (x := x) (y := y) (by rw [hnH.out]; exact hgn) (by rw [hnH.out]; exact hys.out.1.trans hN1.symm) hys.out.2.1 (by rw [hnH.out]; exact hys.out.2.2))
                have hres := Lib.hid (show ptCells (putP L x y) = ((ptCells ys).set (i * 2) (.int .i64 x)).set (i * 2 + 1) (.int .i64 y) by rw [ptCells_set ys i x y (by rw [hys.out.1]; omega), hsh.out, hPN.out])
                have hlen := Lib.hid (show (putP L x y).length = N1 by rw [hPN.out, ← hsh.out, List.length_set]; exact hys.out.1)
                go_wp2
                go_ret
                exact ⟨_, rfl, by rw [hres.out, hlen.out]; exact ((hrx.out.stored (i * 2) _).1.stored (i * 2 + 1) _).1, (hbx.out.setCell (p := ⟨b3, i * 2, none⟩) hlt3.1 _).setCell (p := ⟨b3, i * 2 + 1, none⟩) hlt3.1 _⟩
          · have hgnI : (g : Int) < (n : Int) := by omega
            have hrwW2 := hrwW.out
            obtain ⟨b2, hv, hb1, hb2⟩ := row_block hrwW.out (by omega)
            cases hv
            obtain ⟨p0, p1⟩ := ptCells_get L g _ he2
            have c0 := (hrwW.out.cellAt (g * 2) (by omega)).trans p0
            have c1 := (hrwW.out.cellAt (g * 2 + 1) (by omega)).trans p1
            clear p0 p1 he2 hrwW2
            rcases hne with hne | ⟨hne, hne2⟩
            all_goals
              refine wp_region_ord [(0, .q), (1, .q), (2, .q), (3, .q), (4, .q), (5, .q), (6, .q), (7, .q), (8, .q), (9, .q), (10, .q), (11, .q)] (by kernel_rfl) (by kernel_rfl) ?_
              simp only [pick, List.filterMap_cons, List.filterMap_nil, List.getElem?_toArray, List.getElem?_cons_zero, List.getElem?_cons_succ, Option.map_some]
              repeat (first
                | ((with_reducible refine wpD_p (fun K hK => ?_)); go_simp; refine hK _ ?_; clear hK K)
                | ((with_reducible refine wpD_q (fun K hK => ?_)); go_simp; (first | refine hK _ ?_ | (go_bits; refine hK _ ?_) | (go_bits; go_simp; refine hK _ ?_)); clear hK K)
                | ((with_reducible refine wpD_g (fun K hK => ?_)); go_simp; refine hK _ _ ?_; clear hK K)
                | ((with_reducible refine wpD_g (fun K hK => ?_)); go_simp; refine ⟨Grew.of_alloc _, hK _ _ ?_⟩; clear hK K)
                | ((with_reducible refine wpD_g (fun K hK => ?_)); go_simp; refine ⟨Below.refl _ _, hK _ _ ?_⟩; clear hK K))
              with_reducible refine wpD_nil ?_
              clear c0 c1
              go_upto_region 7 with (at_builtin; refine wpList_append_own_at _ rfl _ _ 101 rfl base 80 i0 (.agg #[.int .i64 0, .int .i64 0]) 2 16 Tryz.underlying101 hi hz0 hz1 hz2 rfl (by decide) _ n (ptCells L) rfl (hrwW.out.drew.alloc _) ⟨W.drew.heap.size, 0, none⟩ 1 1 [.int .i64 x, .int .i64 y] rfl rfl (cell_pt2 _ _ _ _) (fun u hu => by simp at hu; rcases hu with rfl | rfl <;> rfl) (by unfold maxLen; omega) (by omega) (by simp; omega) ?_; intro v3 w3 hown3 hgrow _ hob)
              have hL1 : (L ++ [(⟨x, y⟩ : Pt)]).length = n + 1 := by rw [List.length_append, hnH.out]; rfl
              rw [show ptCells L ++ [Value.int .i64 x, Value.int .i64 y] = ptCells (L ++ [⟨x, y⟩]) from (ptCells_snoc L ⟨x, y⟩).symm] at hown3
              obtain ⟨b3, cap3, rfl⟩ := ownsRow_succ hown3
              have hne3 : b3 ≠ w.heap.size := by
                rcases hob with h | h
                · have := (hownbH.out b3 h.symm).2; omega
                · injection h with h; simp at h; omega
              have hlt3 := hown3.lt b3 rfl
              have hfar : Below base w w3 := by
                refine ((((bl_dr hbW.out).mono hbase).alloc (by simp; omega) _).grown hgrow (by simp; omega) (fun b' hb' => (hownbH.out b' hb').1))
              have u0 : w3.cell? ⟨w.heap.size, 0, none⟩ = some (.int .i64 x) := (World.cell?_of_block (a := ⟨w.heap.size, 0, none⟩) (hgrow.block w.heap.size (by simp; omega) (fun hh => by have := hownbH.out _ hh.symm; omega))).trans (by go_simp)
              have u1 : w3.cell? ⟨w.heap.size, 1, none⟩ = some (.int .i64 y) := (World.cell?_of_block (a := ⟨w.heap.size, 1, none⟩) (hgrow.block w.heap.size (by simp; omega) (fun hh => by have := hownbH.out _ hh.symm; omega))).trans (by go_simp)
              have s3 : w.heap.size < w3.heap.size := Nat.lt_of_lt_of_le hsW (by have := hgrow.size; simp at this; omega)
              have hownH3 := Lib.hid hown3
              have hfarH := Lib.hid hfar
              have hwn : IntKind.i64.wrap (n : Int) = (n : Int) := wrap_in (by omega) (by omega)
              generalize hN1 : n + 1 = N1 at *
              have hN1m : (N1 : Int) - 1 = (n : Int) := by omega
              clear hown3 hfar hgrow hob z0 z1
              go_wp2
              go_loopg [6] (n - g) (fun gg c wx => ∃ (i : Nat) (ys : List Pt), i = gg + g ∧ c = .int .i64 (i : Int) ∧ i ≤ n ∧ Hid (ys.length = N1 ∧ (∀ j, j < i → ys[j]? = L[j]?) ∧ (∀ j, i < j → j ≤ n → ys[j]? = L[j - 1]?)) ∧ Hid (wx.ownsRow base 80 2 (.slice (some ⟨b3, 0, none⟩) N1 cap3) N1 (ptCells ys)) ∧ Hid (Below base w wx) ∧ wx.cell? ⟨w.heap.size, 0, none⟩ = some (.int .i64 x) ∧ wx.cell? ⟨w.heap.size, 1, none⟩ = some (.int .i64 y) ∧ w.heap.size < wx.heap.size ∧ b3 < wx.heap.size)
              case atStart => exact ⟨n, L ++ [⟨x, y⟩], by omega, by go_num, Nat.le_refl _, Lib.hid ⟨hL1, fun j hj => List.getElem?_append_left (by rw [hnH.out]; exact hj), fun j h1 h2 => by omega⟩, hownH3, hfarH, u0, u1, s3, hlt3.2⟩
              case round =>
                obtain ⟨i, ys, hi2, rfl, hin, hys, hrx, hbx, y0, y1, hsx, hbx3⟩ := hrel
                have hi2H := Lib.hid hi2
                clear hi2
                clear u0 u1
                have n1 : ¬ b3 = w.heap.size := hne3
                have n2 : ¬ w.heap.size = b3 := fun h => hne3 h.symm
                by_cases hig : g < i
                · have higI : (g : Int) < (i : Int) := by omega
                  obtain ⟨i', hi'⟩ : ∃ i', i = i' + 1 := ⟨i - 1, by omega⟩
                  have him : (i : Int) - 1 = (i' : Int) := by omega
                  have hwi : IntKind.i64.wrap (i' : Int) = (i' : Int) := wrap_in (by omega) (by omega)
                  have hl1 : i < N1 := by omega
                  have hl2 : i' < N1 := by omega
                  have hl3 : (i : Int) < (N1 : Int) := by omega
                  have hl4 : (i' : Int) < (N1 : Int) := by omega
                  obtain ⟨e3, he3⟩ : ∃ e, ys[i']? = some e := ⟨_, List.getElem?_eq_getElem (by rw [hys.out.1]; omega)⟩
                  obtain ⟨p0, p1⟩ := ptCells_get ys i' e3 he3
                  have c0 := (hrx.out.cellAt (i' * 2) (by omega)).trans p0
                  have c1 := (hrx.out.cellAt (i' * 2 + 1) (by omega)).trans p1
                  have f0 := hrx.out.frozenAt (i * 2)
                  have f1 := hrx.out.frozenAt (i * 2 + 1)
                  obtain ⟨eo, heo⟩ : ∃ e, ys[i]? = some e := ⟨_, List.getElem?_eq_getElem (by rw [hys.out.1]; omega)⟩
                  obtain ⟨r0, r1⟩ := ptCells_get ys i eo heo
                  have d0 := (hrx.out.cellAt (i * 2) (by omega)).trans r0
                  have d1 := (hrx.out.cellAt (i * 2 + 1) (by omega)).trans r1
                  clear r0 r1 heo
                  have he3H := Lib.hid he3
                  have hi'H := Lib.hid hi'
                  clear p0 p1 he3 hi'
                  go_wp2
                  go_roundg (i' - g)
                  case measure => have := hi'H.out; have := hi2H.out; omega
                  case rel => exact ⟨i', ys.set i ⟨e3.x, e3.y⟩, by have := hi'H.out; have := hi2H.out; omega, by go_num, by omega, Lib.hid ⟨by rw [List.length_set]; exact hys.out.1, fun j hj => by
                      have := hi'H.out
                      rw [List.getElem?_set_ne (by omega)]; exact hys.out.2.1 j (by omega), fun j h1 h2 => by
                      have := hi'H.out
                      rcases Nat.lt_or_ge i j with h3 | h3
                      · rw [List.getElem?_set_ne (by omega)]; exact hys.out.2.2 j h3 h2
                      · obtain rfl : j = i := by omega
                        rw [List.getElem?_set_self (by rw [hys.out.1]; omega), ← hys.out.2.1 (j - 1) (by omega), show j - 1 = i' by omega, he3H.out]⟩, Lib.hid (by
                      rw [← ptCells_set ys i e3.x e3.y (by rw [hys.out.1]; omega)]
                      exact ((hrx.out.stored (i * 2) _).1.stored (i * 2 + 1) _).1), Lib.hid ((hbx.out.setCell (p := ⟨b3, i * 2, none⟩) hlt3.1 _).setCell (p := ⟨b3, i * 2 + 1, none⟩) hlt3.1 _), by go_simp, by go_simp, by simp; omega, by simp; omega⟩
                · obtain rfl : i = g := by have := hi2H.out; omega
                  have hl1 : i < N1 := by omega
                  have hl3 : (i : Int) < (N1 : Int) := by omega
                  have f0 := hrx.out.frozenAt (i * 2)
                  have f1 := hrx.out.frozenAt (i * 2 + 1)
                  obtain ⟨eo, heo⟩ : ∃ e, ys[i]? = some e := ⟨_, List.getElem?_eq_getElem (by rw [hys.out.1]; omega)⟩
                  obtain ⟨r0, r1⟩ := ptCells_get ys i eo heo
                  have d0 := (hrx.out.cellAt (i * 2) (by omega)).trans r0
                  have d1 := (hrx.out.cellAt (i * 2 + 1) (by omega)).trans r1
                  clear r0 r1 heo
                  have hsh := Lib.hid (putP_shift (x := x) (y := y) (by rw [hnH.out]; exact hgn) (by rw [hnH.out]; exact hys.out.1.trans hN1.symm) hys.out.2.1 (by rw [hnH.out]; exact hys.out.2.2))
                  have hres := Lib.hid (show ptCells (putP L x y) = ((ptCells ys).set (i * 2) (.int .i64 x)).set (i * 2 + 1) (.int .i64 y) by rw [ptCells_set ys i x y (by rw [hys.out.1]; omega), hsh.out, hPN.out])
                  have hlen := Lib.hid (show (putP L x y).length = N1 by rw [hPN.out, ← hsh.out, List.length_set]; exact hys.out.1)
                  go_wp2
                  go_ret
                  exact ⟨_, rfl, by rw [hres.out, hlen.out]; exact ((hrx.out.stored (i * 2) _).1.stored (i * 2 + 1) _).1, (hbx.out.setCell (p := ⟨b3, i * 2, none⟩) hlt3.1 _).setCell (p := ⟨b3, i * 2 + 1, none⟩) hlt3.1 _⟩
      · obtain ⟨b, hv, hb1, hb2⟩ := row_block hrw.out (by omega)
        cases hv
        have hgN : 0 < g := by omega
        have hgI : (0 : Int) < (g : Int) := by omega
        have hgm : (g : Int) - 1 = (g' : Int) := by omega
        have hwr : IntKind.i64.wrap (g' : Int) = (g' : Int) := wrap_in (by omega) (by omega)
        have hgl : g' < n := by omega
        have hgl2 : (g' : Int) < (n : Int) := by omega
        obtain ⟨p0, p1⟩ := ptCells_get L g' e he
        have c0 := (hrw.out.cellAt (g' * 2) (by omega)).trans p0
        have c1 := (hrw.out.cellAt (g' * 2 + 1) (by omega)).trans p1
        have hlH := Lib.hid hl
        clear hl he p0 p1 hg'
        go_wp2
        refine wp_region_ord [(0, .q), (1, .q), (2, .q), (3, .q), (4, .q), (5, .q), (6, .q), (7, .q), (8, .q), (9, .g), (10, .q), (11, .q)] (by kernel_rfl) (by kernel_rfl) ?_
        simp only [pick, List.filterMap_cons, List.filterMap_nil, List.getElem?_toArray, List.getElem?_cons_zero, List.getElem?_cons_succ, Option.map_some]
        repeat (first
          | ((with_reducible refine wpD_p (fun K hK => ?_)); go_simp; refine hK _ ?_; clear hK K)
          | ((with_reducible refine wpD_q (fun K hK => ?_)); go_simp; (first | refine hK _ ?_ | (go_bits; refine hK _ ?_) | (go_bits; go_simp; refine hK _ ?_)); clear hK K)
          | ((with_reducible refine wpD_g (fun K hK => ?_)); go_simp; refine hK _ _ ?_; clear hK K)
          | ((with_reducible refine wpD_g (fun K hK => ?_)); go_simp; refine ⟨Grew.of_alloc _, hK _ _ ?_⟩; clear hK K)
          | ((with_reducible refine wpD_g (fun K hK => ?_)); go_simp; refine ⟨Below.refl _ _, hK _ _ ?_⟩; clear hK K)
          | ((with_reducible refine wpD_g (fun K hK => ?_)); go_simp; go_at_call 189; refine (sLessPoint_at hlH.out).mono ?_; rintro e W ⟨rfl, hb⟩; refine ⟨_, rfl, hb, hK _ _ ?_⟩; clear hK K; obtain ⟨chb, fhb, shb, thb⟩ := bcell hb))
        with_reducible refine wpD_nil ?_
        have hrwW := Lib.hid (ownsRow_below hrw.out.drew hb)
        have hbW := Lib.hid (bl_tr (bl_dr hbw.out) hb)
        have z0 : W.cell? ⟨w.heap.size, 0, none⟩ = some (.int .i64 x) := (hb.cell (p := ⟨w.heap.size, 0, none⟩) (by simpa using hsz)).trans (by go_simp)
        have z1 : W.cell? ⟨w.heap.size, 1, none⟩ = some (.int .i64 y) := (hb.cell (p := ⟨w.heap.size, 1, none⟩) (by simpa using hsz)).trans (by go_simp)
        have hsW : w.heap.size < W.heap.size := Nat.lt_of_lt_of_le hsz (by have := hb.size; simpa using this)
        clear x0 x1 hsz hrw hbw hgI hgN hgm hwr hgl hgl2 c0 c1 hb chb fhb shb thb
        go_wp2
        by_cases hth : L[g]? = some ⟨x, y⟩
        · have hgn2 : g < n := by rw [← hnH.out]; exact lt_of_get hth
          have hgnI : (g : Int) < (n : Int) := by omega
          obtain ⟨b2, hv, hb1, hb2⟩ := row_block hrwW.out (by omega)
          cases hv
          obtain ⟨p0, p1⟩ := ptCells_get L g _ hth
          have c0 := (hrwW.out.cellAt (g * 2) (by omega)).trans p0
          have c1 := (hrwW.out.cellAt (g * 2 + 1) (by omega)).trans p1
          have hPT := Lib.hid (putP_there hatH.out hth)
          clear hth p0 p1
          refine wp_region_ord [(0, .q), (1, .q), (2, .q), (3, .q), (4, .q), (5, .q), (6, .q), (7, .q), (8, .q), (9, .q), (10, .q), (11, .q)] (by kernel_rfl) (by kernel_rfl) ?_
          simp only [pick, List.filterMap_cons, List.filterMap_nil, List.getElem?_toArray, List.getElem?_cons_zero, List.getElem?_cons_succ, Option.map_some]
          repeat (first
            | ((with_reducible refine wpD_p (fun K hK => ?_)); go_simp; refine hK _ ?_; clear hK K)
            | ((with_reducible refine wpD_q (fun K hK => ?_)); go_simp; (first | refine hK _ ?_ | (go_bits; refine hK _ ?_) | (go_bits; go_simp; refine hK _ ?_)); clear hK K)
            | ((with_reducible refine wpD_g (fun K hK => ?_)); go_simp; refine hK _ _ ?_; clear hK K)
            | ((with_reducible refine wpD_g (fun K hK => ?_)); go_simp; refine ⟨Grew.of_alloc _, hK _ _ ?_⟩; clear hK K)
            | ((with_reducible refine wpD_g (fun K hK => ?_)); go_simp; refine ⟨Below.refl _ _, hK _ _ ?_⟩; clear hK K))
          with_reducible refine wpD_nil ?_
          go_wp2
          go_ret
          exact ⟨_, rfl, by rw [hPT.out, hnH.out]; exact hrwW.out.drew, (bl_dr hbW.out).mono hbase⟩
        · have hPN := Lib.hid (putP_new hatH.out hth)
          have hth2 : g = n ∨ ∃ e2 : Pt, g < n ∧ L[g]? = some e2 ∧ ((e2.x == x) = false ∨ ((e2.x == x) = true ∧ (e2.y == y) = false)) := by
            rcases Nat.lt_or_ge g n with h | h
            · obtain ⟨e2, he2⟩ : ∃ e, L[g]? = some e := ⟨_, List.getElem?_eq_getElem (by rw [hnH.out]; exact h)⟩
              refine Or.inr ⟨e2, h, he2, ?_⟩
              cases hh : (e2.x == x)
              · exact Or.inl rfl
              · cases hh2 : (e2.y == y)
                · exact Or.inr ⟨rfl, rfl⟩
                · exact (hth (by rw [he2, ← beq_iff_eq.1 hh, ← beq_iff_eq.1 hh2])).elim
            · exact Or.inl (by omega)
          clear hth
          rcases hth2 with hgn2 | ⟨e2, hgn2, he2, hne⟩
          · have hgnN : ¬ g < n := by omega
            have hgnI : ¬ (g : Int) < (n : Int) := by omega
            have hgn2H := Lib.hid hgn2
            clear hgn2
            refine wp_region_ord [(0, .q), (1, .q), (2, .q), (3, .q), (4, .q), (5, .q), (6, .q), (7, .q), (8, .q), (9, .q), (10, .q), (11, .q)] (by kernel_rfl) (by kernel_rfl) ?_
            simp only [pick, List.filterMap_cons, List.filterMap_nil, List.getElem?_toArray, List.getElem?_cons_zero, List.getElem?_cons_succ, Option.map_some]
            repeat (first
              | ((with_reducible refine wpD_p (fun K hK => ?_)); go_simp; refine hK _ ?_; clear hK K)
              | ((with_reducible refine wpD_q (fun K hK => ?_)); go_simp; (first | refine hK _ ?_ | (go_bits; refine hK _ ?_) | (go_bits; go_simp; refine hK _ ?_)); clear hK K)
              | ((with_reducible refine wpD_g (fun K hK => ?_)); go_simp; refine hK _ _ ?_; clear hK K)
              | ((with_reducible refine wpD_g (fun K hK => ?_)); go_simp; refine ⟨Grew.of_alloc _, hK _ _ ?_⟩; clear hK K)
              | ((with_reducible refine wpD_g (fun K hK => ?_)); go_simp; refine ⟨Below.refl _ _, hK _ _ ?_⟩; clear hK K))
            with_reducible refine wpD_nil ?_
            clear hgnN hgnI
            go_upto_region 7 with (at_builtin; refine wpList_append_own_at _ rfl _ _ 101 rfl base 80 i0 (.agg #[.int .i64 0, .int .i64 0]) 2 16 Tryz.underlying101 hi hz0 hz1 hz2 rfl (by decide) _ n (ptCells L) rfl (hrwW.out.drew.alloc _) ⟨W.drew.heap.size, 0, none⟩ 1 1 [.int .i64 x, .int .i64 y] rfl rfl (cell_pt2 _ _ _ _) (fun u hu => by simp at hu; rcases hu with rfl | rfl <;> rfl) (by unfold maxLen; omega) (by omega) (by simp; omega) ?_; intro v3 w3 hown3 hgrow _ hob)
            have hL1 : (L ++ [(⟨x, y⟩ : Pt)]).length = n + 1 := by rw [List.length_append, hnH.out]; rfl
            rw [show ptCells L ++ [Value.int .i64 x, Value.int .i64 y] = ptCells (L ++ [⟨x, y⟩]) from (ptCells_snoc L ⟨x, y⟩).symm] at hown3
            obtain ⟨b3, cap3, rfl⟩ := ownsRow_succ hown3
            have hne3 : b3 ≠ w.heap.size := by
              rcases hob with h | h
              · have := (hownbH.out b3 h.symm).2; omega
              · injection h with h; simp at h; omega
            have hlt3 := hown3.lt b3 rfl
            have hfar : Below base w w3 := by
              refine ((((bl_dr hbW.out).mono hbase).alloc (by simp; omega) _).grown hgrow (by simp; omega) (fun b' hb' => (hownbH.out b' hb').1))
            have u0 : w3.cell? ⟨w.heap.size, 0, none⟩ = some (.int .i64 x) := (World.cell?_of_block (a := ⟨w.heap.size, 0, none⟩) (hgrow.block w.heap.size (by simp; omega) (fun hh => by have := hownbH.out _ hh.symm; omega))).trans (by go_simp)
            have u1 : w3.cell? ⟨w.heap.size, 1, none⟩ = some (.int .i64 y) := (World.cell?_of_block (a := ⟨w.heap.size, 1, none⟩) (hgrow.block w.heap.size (by simp; omega) (fun hh => by have := hownbH.out _ hh.symm; omega))).trans (by go_simp)
            have s3 : w.heap.size < w3.heap.size := Nat.lt_of_lt_of_le hsW (by have := hgrow.size; simp at this; omega)
            have hownH3 := Lib.hid hown3
            have hfarH := Lib.hid hfar
            have hwn : IntKind.i64.wrap (n : Int) = (n : Int) := wrap_in (by omega) (by omega)
            generalize hN1 : n + 1 = N1 at *
            have hN1m : (N1 : Int) - 1 = (n : Int) := by omega
            clear hown3 hfar hgrow hob z0 z1
            go_wp2
            go_loopg [6] (n - g) (fun gg c wx => ∃ (i : Nat) (ys : List Pt), i = gg + g ∧ c = .int .i64 (i : Int) ∧ i ≤ n ∧ Hid (ys.length = N1 ∧ (∀ j, j < i → ys[j]? = L[j]?) ∧ (∀ j, i < j → j ≤ n → ys[j]? = L[j - 1]?)) ∧ Hid (wx.ownsRow base 80 2 (.slice (some ⟨b3, 0, none⟩) N1 cap3) N1 (ptCells ys)) ∧ Hid (Below base w wx) ∧ wx.cell? ⟨w.heap.size, 0, none⟩ = some (.int .i64 x) ∧ wx.cell? ⟨w.heap.size, 1, none⟩ = some (.int .i64 y) ∧ w.heap.size < wx.heap.size ∧ b3 < wx.heap.size)
            case atStart => exact ⟨n, L ++ [⟨x, y⟩], by omega, by go_num, Nat.le_refl _, Lib.hid ⟨hL1, fun j hj => List.getElem?_append_left (by rw [hnH.out]; exact hj), fun j h1 h2 => by omega⟩, hownH3, hfarH, u0, u1, s3, hlt3.2⟩
            case round =>
              obtain ⟨i, ys, hi2, rfl, hin, hys, hrx, hbx, y0, y1, hsx, hbx3⟩ := hrel
              have hi2H := Lib.hid hi2
              clear hi2
              clear u0 u1
              have n1 : ¬ b3 = w.heap.size := hne3
              have n2 : ¬ w.heap.size = b3 := fun h => hne3 h.symm
              by_cases hig : g < i
              · have higI : (g : Int) < (i : Int) := by omega
                obtain ⟨i', hi'⟩ : ∃ i', i = i' + 1 := ⟨i - 1, by omega⟩
                have him : (i : Int) - 1 = (i' : Int) := by omega
                have hwi : IntKind.i64.wrap (i' : Int) = (i' : Int) := wrap_in (by omega) (by omega)
                have hl1 : i < N1 := by omega
                have hl2 : i' < N1 := by omega
                have hl3 : (i : Int) < (N1 : Int) := by omega
                have hl4 : (i' : Int) < (N1 : Int) := by omega
                obtain ⟨e3, he3⟩ : ∃ e, ys[i']? = some e := ⟨_, List.getElem?_eq_getElem (by rw [hys.out.1]; omega)⟩
                obtain ⟨p0, p1⟩ := ptCells_get ys i' e3 he3
                have c0 := (hrx.out.cellAt (i' * 2) (by omega)).trans p0
                have c1 := (hrx.out.cellAt (i' * 2 + 1) (by omega)).trans p1
                have f0 := hrx.out.frozenAt (i * 2)
                have f1 := hrx.out.frozenAt (i * 2 + 1)
                obtain ⟨eo, heo⟩ : ∃ e, ys[i]? = some e := ⟨_, List.getElem?_eq_getElem (by rw [hys.out.1]; omega)⟩
                obtain ⟨r0, r1⟩ := ptCells_get ys i eo heo
                have d0 := (hrx.out.cellAt (i * 2) (by omega)).trans r0
                have d1 := (hrx.out.cellAt (i * 2 + 1) (by omega)).trans r1
                clear r0 r1 heo
                have he3H := Lib.hid he3
                have hi'H := Lib.hid hi'
                clear p0 p1 he3 hi'
                go_wp2
                go_roundg (i' - g)
                case measure => have := hi'H.out; have := hi2H.out; omega
                case rel => exact ⟨i', ys.set i ⟨e3.x, e3.y⟩, by have := hi'H.out; have := hi2H.out; omega, by go_num, by omega, Lib.hid ⟨by rw [List.length_set]; exact hys.out.1, fun j hj => by
                    have := hi'H.out
                    rw [List.getElem?_set_ne (by omega)]; exact hys.out.2.1 j (by omega), fun j h1 h2 => by
                    have := hi'H.out
                    rcases Nat.lt_or_ge i j with h3 | h3
                    · rw [List.getElem?_set_ne (by omega)]; exact hys.out.2.2 j h3 h2
                    · obtain rfl : j = i := by omega
                      rw [List.getElem?_set_self (by rw [hys.out.1]; omega), ← hys.out.2.1 (j - 1) (by omega), show j - 1 = i' by omega, he3H.out]⟩, Lib.hid (by
                    rw [← ptCells_set ys i e3.x e3.y (by rw [hys.out.1]; omega)]
                    exact ((hrx.out.stored (i * 2) _).1.stored (i * 2 + 1) _).1), Lib.hid ((hbx.out.setCell (p := ⟨b3, i * 2, none⟩) hlt3.1 _).setCell (p := ⟨b3, i * 2 + 1, none⟩) hlt3.1 _), by go_simp, by go_simp, by simp; omega, by simp; omega⟩
              · obtain rfl : i = g := by have := hi2H.out; omega
                have hl1 : i < N1 := by omega
                have hl3 : (i : Int) < (N1 : Int) := by omega
                have f0 := hrx.out.frozenAt (i * 2)
                have f1 := hrx.out.frozenAt (i * 2 + 1)
                obtain ⟨eo, heo⟩ : ∃ e, ys[i]? = some e := ⟨_, List.getElem?_eq_getElem (by rw [hys.out.1]; omega)⟩
                obtain ⟨r0, r1⟩ := ptCells_get ys i eo heo
                have d0 := (hrx.out.cellAt (i * 2) (by omega)).trans r0
                have d1 := (hrx.out.cellAt (i * 2 + 1) (by omega)).trans r1
                clear r0 r1 heo
                have hsh := Lib.hid (putP_shift (x := x) (y := y) (by rw [hnH.out]; exact hgn) (by rw [hnH.out]; exact hys.out.1.trans hN1.symm) hys.out.2.1 (by rw [hnH.out]; exact hys.out.2.2))
                have hres := Lib.hid (show ptCells (putP L x y) = ((ptCells ys).set (i * 2) (.int .i64 x)).set (i * 2 + 1) (.int .i64 y) by rw [ptCells_set ys i x y (by rw [hys.out.1]; omega), hsh.out, hPN.out])
                have hlen := Lib.hid (show (putP L x y).length = N1 by rw [hPN.out, ← hsh.out, List.length_set]; exact hys.out.1)
                go_wp2
                go_ret
                exact ⟨_, rfl, by rw [hres.out, hlen.out]; exact ((hrx.out.stored (i * 2) _).1.stored (i * 2 + 1) _).1, (hbx.out.setCell (p := ⟨b3, i * 2, none⟩) hlt3.1 _).setCell (p := ⟨b3, i * 2 + 1, none⟩) hlt3.1 _⟩
          · have hgnI : (g : Int) < (n : Int) := by omega
            have hrwW2 := hrwW.out
            obtain ⟨b2, hv, hb1, hb2⟩ := row_block hrwW.out (by omega)
            cases hv
            obtain ⟨p0, p1⟩ := ptCells_get L g _ he2
            have c0 := (hrwW.out.cellAt (g * 2) (by omega)).trans p0
            have c1 := (hrwW.out.cellAt (g * 2 + 1) (by omega)).trans p1
            clear p0 p1 he2 hrwW2
            rcases hne with hne | ⟨hne, hne2⟩
            all_goals
              refine wp_region_ord [(0, .q), (1, .q), (2, .q), (3, .q), (4, .q), (5, .q), (6, .q), (7, .q), (8, .q), (9, .q), (10, .q), (11, .q)] (by kernel_rfl) (by kernel_rfl) ?_
              simp only [pick, List.filterMap_cons, List.filterMap_nil, List.getElem?_toArray, List.getElem?_cons_zero, List.getElem?_cons_succ, Option.map_some]
              repeat (first
                | ((with_reducible refine wpD_p (fun K hK => ?_)); go_simp; refine hK _ ?_; clear hK K)
                | ((with_reducible refine wpD_q (fun K hK => ?_)); go_simp; (first | refine hK _ ?_ | (go_bits; refine hK _ ?_) | (go_bits; go_simp; refine hK _ ?_)); clear hK K)
                | ((with_reducible refine wpD_g (fun K hK => ?_)); go_simp; refine hK _ _ ?_; clear hK K)
                | ((with_reducible refine wpD_g (fun K hK => ?_)); go_simp; refine ⟨Grew.of_alloc _, hK _ _ ?_⟩; clear hK K)
                | ((with_reducible refine wpD_g (fun K hK => ?_)); go_simp; refine ⟨Below.refl _ _, hK _ _ ?_⟩; clear hK K))
              with_reducible refine wpD_nil ?_
              clear c0 c1
              go_upto_region 7 with (at_builtin; refine wpList_append_own_at _ rfl _ _ 101 rfl base 80 i0 (.agg #[.int .i64 0, .int .i64 0]) 2 16 Tryz.underlying101 hi hz0 hz1 hz2 rfl (by decide) _ n (ptCells L) rfl (hrwW.out.drew.alloc _) ⟨W.drew.heap.size, 0, none⟩ 1 1 [.int .i64 x, .int .i64 y] rfl rfl (cell_pt2 _ _ _ _) (fun u hu => by simp at hu; rcases hu with rfl | rfl <;> rfl) (by unfold maxLen; omega) (by omega) (by simp; omega) ?_; intro v3 w3 hown3 hgrow _ hob)
              have hL1 : (L ++ [(⟨x, y⟩ : Pt)]).length = n + 1 := by rw [List.length_append, hnH.out]; rfl
              rw [show ptCells L ++ [Value.int .i64 x, Value.int .i64 y] = ptCells (L ++ [⟨x, y⟩]) from (ptCells_snoc L ⟨x, y⟩).symm] at hown3
              obtain ⟨b3, cap3, rfl⟩ := ownsRow_succ hown3
              have hne3 : b3 ≠ w.heap.size := by
                rcases hob with h | h
                · have := (hownbH.out b3 h.symm).2; omega
                · injection h with h; simp at h; omega
              have hlt3 := hown3.lt b3 rfl
              have hfar : Below base w w3 := by
                refine ((((bl_dr hbW.out).mono hbase).alloc (by simp; omega) _).grown hgrow (by simp; omega) (fun b' hb' => (hownbH.out b' hb').1))
              have u0 : w3.cell? ⟨w.heap.size, 0, none⟩ = some (.int .i64 x) := (World.cell?_of_block (a := ⟨w.heap.size, 0, none⟩) (hgrow.block w.heap.size (by simp; omega) (fun hh => by have := hownbH.out _ hh.symm; omega))).trans (by go_simp)
              have u1 : w3.cell? ⟨w.heap.size, 1, none⟩ = some (.int .i64 y) := (World.cell?_of_block (a := ⟨w.heap.size, 1, none⟩) (hgrow.block w.heap.size (by simp; omega) (fun hh => by have := hownbH.out _ hh.symm; omega))).trans (by go_simp)
              have s3 : w.heap.size < w3.heap.size := Nat.lt_of_lt_of_le hsW (by have := hgrow.size; simp at this; omega)
              have hownH3 := Lib.hid hown3
              have hfarH := Lib.hid hfar
              have hwn : IntKind.i64.wrap (n : Int) = (n : Int) := wrap_in (by omega) (by omega)
              generalize hN1 : n + 1 = N1 at *
              have hN1m : (N1 : Int) - 1 = (n : Int) := by omega
              clear hown3 hfar hgrow hob z0 z1
              go_wp2
              go_loopg [6] (n - g) (fun gg c wx => ∃ (i : Nat) (ys : List Pt), i = gg + g ∧ c = .int .i64 (i : Int) ∧ i ≤ n ∧ Hid (ys.length = N1 ∧ (∀ j, j < i → ys[j]? = L[j]?) ∧ (∀ j, i < j → j ≤ n → ys[j]? = L[j - 1]?)) ∧ Hid (wx.ownsRow base 80 2 (.slice (some ⟨b3, 0, none⟩) N1 cap3) N1 (ptCells ys)) ∧ Hid (Below base w wx) ∧ wx.cell? ⟨w.heap.size, 0, none⟩ = some (.int .i64 x) ∧ wx.cell? ⟨w.heap.size, 1, none⟩ = some (.int .i64 y) ∧ w.heap.size < wx.heap.size ∧ b3 < wx.heap.size)
              case atStart => exact ⟨n, L ++ [⟨x, y⟩], by omega, by go_num, Nat.le_refl _, Lib.hid ⟨hL1, fun j hj => List.getElem?_append_left (by rw [hnH.out]; exact hj), fun j h1 h2 => by omega⟩, hownH3, hfarH, u0, u1, s3, hlt3.2⟩
              case round =>
                obtain ⟨i, ys, hi2, rfl, hin, hys, hrx, hbx, y0, y1, hsx, hbx3⟩ := hrel
                have hi2H := Lib.hid hi2
                clear hi2
                clear u0 u1
                have n1 : ¬ b3 = w.heap.size := hne3
                have n2 : ¬ w.heap.size = b3 := fun h => hne3 h.symm
                by_cases hig : g < i
                · have higI : (g : Int) < (i : Int) := by omega
                  obtain ⟨i', hi'⟩ : ∃ i', i = i' + 1 := ⟨i - 1, by omega⟩
                  have him : (i : Int) - 1 = (i' : Int) := by omega
                  have hwi : IntKind.i64.wrap (i' : Int) = (i' : Int) := wrap_in (by omega) (by omega)
                  have hl1 : i < N1 := by omega
                  have hl2 : i' < N1 := by omega
                  have hl3 : (i : Int) < (N1 : Int) := by omega
                  have hl4 : (i' : Int) < (N1 : Int) := by omega
                  obtain ⟨e3, he3⟩ : ∃ e, ys[i']? = some e := ⟨_, List.getElem?_eq_getElem (by rw [hys.out.1]; omega)⟩
                  obtain ⟨p0, p1⟩ := ptCells_get ys i' e3 he3
                  have c0 := (hrx.out.cellAt (i' * 2) (by omega)).trans p0
                  have c1 := (hrx.out.cellAt (i' * 2 + 1) (by omega)).trans p1
                  have f0 := hrx.out.frozenAt (i * 2)
                  have f1 := hrx.out.frozenAt (i * 2 + 1)
                  obtain ⟨eo, heo⟩ : ∃ e, ys[i]? = some e := ⟨_, List.getElem?_eq_getElem (by rw [hys.out.1]; omega)⟩
                  obtain ⟨r0, r1⟩ := ptCells_get ys i eo heo
                  have d0 := (hrx.out.cellAt (i * 2) (by omega)).trans r0
                  have d1 := (hrx.out.cellAt (i * 2 + 1) (by omega)).trans r1
                  clear r0 r1 heo
                  have he3H := Lib.hid he3
                  have hi'H := Lib.hid hi'
                  clear p0 p1 he3 hi'
                  go_wp2
                  go_roundg (i' - g)
                  case measure => have := hi'H.out; have := hi2H.out; omega
                  case rel => exact ⟨i', ys.set i ⟨e3.x, e3.y⟩, by have := hi'H.out; have := hi2H.out; omega, by go_num, by omega, Lib.hid ⟨by rw [List.length_set]; exact hys.out.1, fun j hj => by
                      have := hi'H.out
                      rw [List.getElem?_set_ne (by omega)]; exact hys.out.2.1 j (by omega), fun j h1 h2 => by
                      have := hi'H.out
                      rcases Nat.lt_or_ge i j with h3 | h3
                      · rw [List.getElem?_set_ne (by omega)]; exact hys.out.2.2 j h3 h2
                      · obtain rfl : j = i := by omega
                        rw [List.getElem?_set_self (by rw [hys.out.1]; omega), ← hys.out.2.1 (j - 1) (by omega), show j - 1 = i' by omega, he3H.out]⟩, Lib.hid (by
                      rw [← ptCells_set ys i e3.x e3.y (by rw [hys.out.1]; omega)]
                      exact ((hrx.out.stored (i * 2) _).1.stored (i * 2 + 1) _).1), Lib.hid ((hbx.out.setCell (p := ⟨b3, i * 2, none⟩) hlt3.1 _).setCell (p := ⟨b3, i * 2 + 1, none⟩) hlt3.1 _), by go_simp, by go_simp, by simp; omega, by simp; omega⟩
                · obtain rfl : i = g := by have := hi2H.out; omega
                  have hl1 : i < N1 := by omega
                  have hl3 : (i : Int) < (N1 : Int) := by omega
                  have f0 := hrx.out.frozenAt (i * 2)
                  have f1 := hrx.out.frozenAt (i * 2 + 1)
                  obtain ⟨eo, heo⟩ : ∃ e, ys[i]? = some e := ⟨_, List.getElem?_eq_getElem (by rw [hys.out.1]; omega)⟩
                  obtain ⟨r0, r1⟩ := ptCells_get ys i eo heo
                  have d0 := (hrx.out.cellAt (i * 2) (by omega)).trans r0
                  have d1 := (hrx.out.cellAt (i * 2 + 1) (by omega)).trans r1
                  clear r0 r1 heo
                  have hsh := Lib.hid (putP_shift (x := x) (y := y) (by rw [hnH.out]; exact hgn) (by rw [hnH.out]; exact hys.out.1.trans hN1.symm) hys.out.2.1 (by rw [hnH.out]; exact hys.out.2.2))
                  have hres := Lib.hid (show ptCells (putP L x y) = ((ptCells ys).set (i * 2) (.int .i64 x)).set (i * 2 + 1) (.int .i64 y) by rw [ptCells_set ys i x y (by rw [hys.out.1]; omega), hsh.out, hPN.out])
                  have hlen := Lib.hid (show (putP L x y).length = N1 by rw [hPN.out, ← hsh.out, List.length_set]; exact hys.out.1)
                  go_wp2
                  go_ret
                  exact ⟨_, rfl, by rw [hres.out, hlen.out]; exact ((hrx.out.stored (i * 2) _).1.stored (i * 2 + 1) _).1, (hbx.out.setCell (p := ⟨b3, i * 2, none⟩) hlt3.1 _).setCell (p := ⟨b3, i * 2 + 1, none⟩) hlt3.1 _⟩
end Go.Proofs.YtcpbppblahpjbaaGreat
/- Maps from points that a call makes: the tiles of a crystal, and the lists of its options (by their lengths). -/







namespace Go.Proofs.YtcpbppblahpjbaaGreat
open Go.RowKit Go.Shelf
set_option linter.unusedSimpArgs false
set_option linter.unusedVariables false
open Go.Maps (Keyed)
theorem prog_laid : laidOutB Tryz.prog = true := by kernel_rfl
set_option maxRecDepth 100000
theorem pt_row : (80 : TypeId) < Tryz.prog.types.size := of_decide_eq_true (by kernel_rfl)
theorem pt_wide : (match Tryz.prog.underlying 80 with | some (.array _ _) | some (.struct _) => true | _ => false) = true := by rw [Tryz.underlying80]
theorem pt_keyed : Keyed Tryz.prog 80 := Maps.Keyed.of_law (deep_law_laid prog_laid (m := 2) (by omega) pt_row (by kernel_rfl) pt_wide)
/-- a number of 64 bits -/
def W64 (x : Int) : Prop := (Lit.int .i64 x).wf = true
theorem W64.of {x : Int} (h : -1000000 ≤ x ∧ x ≤ 1000000) : W64 x := by
  unfold W64; simp [Lit.wf, IntKind.min, IntKind.max, IntKind.bits, IntKind.signed]; omega
theorem pt_type : Tryz.prog.keyType 80 = true := by kernel_rfl
theorem pt_cells : Tryz.prog.cellsOf 80 = 2 := by kernel_rfl
theorem i64_cells : Tryz.prog.cellsOf 2 = 1 := by kernel_rfl
theorem pt_size : ∃ m, Tryz.prog.types.size = m + 1 := ⟨_, (Nat.succ_pred_eq_of_pos (Nat.lt_of_le_of_lt (Nat.zero_le _) pt_row)).symm⟩
theorem keyOf_pt_some {x y : Int} (hx : W64 x) (hy : W64 y) : ∃ l, keyOf Tryz.prog 80 (.agg #[.int .i64 x, .int .i64 y]) = some l := by
  unfold keyOf
  obtain ⟨m, hm⟩ := pt_size
  unfold W64 at hx hy
  rw [Tryz.underlying80]
  simp only []
  rw [if_pos (by rw [pt_type]; simp [Value.formed, Tryz.underlying80, pt_cells])]
  simp only [Option.map_eq_some_iff]
  refine ⟨_, [.int .i64 x, .int .i64 y], ?_, rfl⟩
  rw [hm]
  simp [Program.keyLits, Tryz.underlying80, Tryz.underlying2, pt_cells, i64_cells, Value.cells, hx, hy]
noncomputable def pkey (x y : Int) : Lit := (keyOf Tryz.prog 80 (.agg #[.int .i64 x, .int .i64 y])).getD (.bool false)
theorem keyOf_pt {x y : Int} (hx : W64 x) (hy : W64 y) : keyOf Tryz.prog 80 (.agg #[.int .i64 x, .int .i64 y]) = some (pkey x y) := by
  obtain ⟨l, hl⟩ := keyOf_pt_some hx hy
  unfold pkey
  rw [hl]; rfl
theorem pkey_inj {x y x' y' : Int} (hx : W64 x) (hy : W64 y) (hx' : W64 x') (hy' : W64 y') (h : pkey x y = pkey x' y') : x = x' ∧ y = y' := by
  have h1 := keyOf_pt hx hy
  have h2 := keyOf_pt hx' hy'
  rw [← h] at h2
  have := pt_keyed.inj h1 h2
  simp at this
  exact this
/-- block b maps points to numbers: M; at most n were laid in -/
def PMap (w : World) (b n : Nat) (M : Int → Int → Option Int) : Prop :=
  ∃ D : DataW Unit, w.ownsMap Tryz.prog 80 (plainElem Tryz.prog 2) b n D ∧ ∀ x y, W64 x → W64 y → Maps.has D (pkey x y) = (M x y).isSome ∧ ∀ v, M x y = some v → D.atKey (pkey x y) (.lit (.int .i64 0)) = .lit (.int .i64 v)
theorem PMap.made (w : World) : PMap (w.alloc (.map #[] 0)) w.heap.size 0 (fun _ _ => none) :=
  ⟨_, World.ownsMap_made _ _ _ _, fun x y _ _ => ⟨by simp [Maps.has], fun v h => by cases h⟩⟩
theorem PMap.lt {w : World} {b n : Nat} {M : Int → Int → Option Int} (h : PMap w b n M) : b < w.heap.size := by
  obtain ⟨D, h, _⟩ := h
  exact h.lt
theorem PMap.block {w w' : World} {b n : Nat} {M : Int → Int → Option Int} (h : PMap w b n M) (hb : w'.heap[b]? = w.heap[b]?) : PMap w' b n M := by
  obtain ⟨D, ⟨es, clock, hh, r⟩, h2⟩ := h
  exact ⟨D, ⟨es, clock, hb.trans hh, r⟩, h2⟩
theorem PMap.below {w w' : World} {b n : Nat} {M : Int → Int → Option Int} (h : PMap w b n M) (hb : Below w.heap.size w w') : PMap w' b n M := h.block (hb.block b h.lt)
theorem PMap.mk {w w' : World} {b n lo hi : Nat} {M : Int → Int → Option Int} (h : PMap w b n M) (hm : Mk lo hi w w') (hn : b < lo ∨ hi ≤ b) : PMap w' b n M :=
  h.block (by rcases hn with h1 | h1; exact hm.below.block b h1; exact hm.keep b h1 h.lt)
theorem zero_i64 (w : World) : (zeroValue 2).run Tryz.prog w = .ok (.int .i64 0) w := by kernel_rfl
section
variable {ops : Array Oper}
theorem look_run {w : World} {b n : Nat} {M : Int → Int → Option Int} (h : PMap w b n M) {x y : Int} (hx : W64 x) (hy : W64 y) : ∃ c : Int, (∀ v, M x y = some v → c = v) ∧ ∀ W, Below w.heap.size w W → (Instr.lookup 178 (.map (some b)) (.agg #[.int .i64 x, .int .i64 y]) true).run Tryz.prog W = .ok (.tuple #[.int .i64 c, .bool (M x y).isSome]) W := by
  obtain ⟨D, hown, hat⟩ := h
  have hl := hown.lt
  have key : ∀ W, Below w.heap.size w W → ∃ c : Int, D.atKey (pkey x y) (.lit (.int .i64 0)) = .lit (.int .i64 c) ∧ (Instr.lookup 178 (.map (some b)) (.agg #[.int .i64 x, .int .i64 y]) true).run Tryz.prog W = .ok (.tuple #[.int .i64 c, .bool (M x y).isSome]) W := fun W hb => by
    have hownW : W.ownsMap Tryz.prog 80 (plainElem Tryz.prog 2) b n D := by
      obtain ⟨es, clock, hh, r⟩ := hown
      exact ⟨es, clock, (hb.block b hl).trans hh, r⟩
    obtain ⟨v, ps, hrun, hv⟩ := hownW.look_ok pt_keyed Tryz.underlying178 (zero_i64 W) (plainElem_int Tryz.underlying2 (by decide)) (keyOf_pt hx hy)
    obtain ⟨c, rfl, hc, _⟩ := plainElem_int_inv Tryz.underlying2 hv
    rw [(hat x y hx hy).1] at hrun
    exact ⟨c, congrArg Prod.fst hc, hrun⟩
  obtain ⟨c, hc, _⟩ := key w (Below.refl _ _)
  refine ⟨c, fun v hv => ?_, fun W hW => ?_⟩
  · have := (hat x y hx hy).2 v hv
    rw [hc] at this
    injection this with this
    injection this
  · obtain ⟨c', hc', hrun⟩ := key W hW
    rw [hc] at hc'
    injection hc' with hc'
    injection hc' with _ hc'
    rw [hc']; exact hrun
theorem wpD_look_pmap {o : Oper} {rest : List (Oper × Tag)} {a : Act} {w : World} {Q : Act → World → Prop} (hgd : o.guard = none) (m k : Operand) (hop : o.op = Op.lookup 178 m k true) (b n : Nat) (M : Int → Int → Option Int) (hm : a.eval m = .map (some b)) (h : PMap w b n M) (x y : Int) (hx : W64 x) (hy : W64 y) (hk : a.eval k = .agg #[.int .i64 x, .int .i64 y])
    (hK : ∀ c : Int, (∀ v, M x y = some v → c = v) → wpD Tryz.prog ops Q rest (a.put o.dst (.tuple #[.int .i64 c, .bool (M x y).isSome])) w) : wpD Tryz.prog ops Q ((o, .q) :: rest) a w := by
  refine wpD_q fun K hK' => ?_
  have hw : Region.wanted o (yielded ops a.tmps) = true := by simp [Region.wanted, hgd]
  rw [if_pos hw]
  obtain ⟨c, hc, hrun⟩ := look_run h hx hy
  refine ⟨_, fun p => ?_, hK' _ (hK c hc)⟩
  unfold execOp
  simp [hop, hm, hk, hrun p.world p.h, Result.andThen, stillUpon]
theorem PMap.put {w' : World} {b n : Nat} {M : Int → Int → Option Int} {D : DataW Unit} {x y v : Int} (hx : W64 x) (hy : W64 y) (hD : Maps.IsMap D) (hat : ∀ x y, W64 x → W64 y → Maps.has D (pkey x y) = (M x y).isSome ∧ ∀ v, M x y = some v → D.atKey (pkey x y) (.lit (.int .i64 0)) = .lit (.int .i64 v))
    (h1 : w'.ownsMap Tryz.prog 80 (plainElem Tryz.prog 2) b n (D.put (pkey x y) (.lit (.int .i64 v)))) : PMap w' b n (fun i j => if i = x ∧ j = y then some v else M i j) := by
  refine ⟨_, h1, fun i j hi hj => ?_⟩
  by_cases hij : i = x ∧ j = y
  · obtain ⟨rfl, rfl⟩ := hij
    have hkl := pt_keyed.key (keyOf_pt hi hj)
    simp only [and_self, if_true]
    refine ⟨Maps.has_put_same hD hkl _, fun u hu => ?_⟩
    injection hu with hu
    subst hu
    exact Maps.atKey_put_same hD hkl _ _
  · have hne : pkey i j ≠ pkey x y := fun e => hij (pkey_inj hi hj hx hy e)
    simp only [if_neg hij]
    rw [Maps.has_put_other hne]
    refine ⟨(hat i j hi hj).1, fun u hu => ?_⟩
    rw [Maps.atKey_put_other hne]
    exact (hat i j hi hj).2 u hu
theorem wpD_put_pmap {o : Oper} {rest : List (Oper × Tag)} {a : Act} {w : World} {Q : Act → World → Prop} (hgd : o.guard = none) (m k u : Operand) (hop : o.op = Op.mapUpdate 178 m k u) (b n : Nat) (M : Int → Int → Option Int) (hm : a.eval m = .map (some b)) (h : PMap w b n M) (x y v : Int) (hx : W64 x) (hy : W64 y) (hv : W64 v) (hn : n < maxLen) (hk : a.eval k = .agg #[.int .i64 x, .int .i64 y]) (hu : a.eval u = .int .i64 v)
    (hK : ∀ w', PMap w' b (n + 1) (fun i j => if i = x ∧ j = y then some v else M i j) → Mk b (b + 1) w w' → wpD Tryz.prog ops Q rest (a.put o.dst undef) w') : wpD Tryz.prog ops Q ((o, .b) :: rest) a w := by
  refine wpD_b fun K hK' => ?_
  have hw : Region.wanted o (yielded ops a.tmps) = true := by simp [Region.wanted, hgd]
  rw [if_pos hw]
  obtain ⟨D, hown, hat⟩ := h
  have hl := hown.lt
  obtain ⟨w', hrun, h1, h2⟩ := hown.update pt_keyed Tryz.underlying178 hn (keyOf_pt hx hy) (plainElem_int Tryz.underlying2 hv)
  unfold execOp
  simp only [hop, hm, hk, hu, Sem.run_bind, Sem.run_pure, hrun, Result.andThen_ok]
  exact hK' _ _ (hK w' (PMap.put hx hy hown.isMap hat h1) ⟨(Below.refl b w).grown h2 (Nat.le_of_lt hl) (fun j hj => by cases hj; exact Nat.le_refl _), h2.size, fun i hi hlt => h2.block i hlt (fun hh => by injection hh with hh; omega)⟩)
end
/-- how a list of options reads: by its length -/
def lenElem (v : Value) : Option (DataW Unit × List MemPlace) := match v with
  | .slice _ n _ => some (.lit (.int .i64 (n : Int)), [])
  | _ => none
theorem lenElem_inv (v : Value) (y : DataW Unit × List MemPlace) (h : lenElem v = some y) : ∃ c : Option Addr × Nat × Nat, v = .slice c.1 c.2.1 c.2.2 := by
  unfold lenElem at h
  split at h
  · exact ⟨⟨_, _, _⟩, rfl⟩
  · cases h
/-- block b maps the points of S, no others, to lists that are not empty -/
def OMap (w : World) (b n : Nat) (S : Int → Int → Bool) : Prop :=
  ∃ D : DataW Unit, w.ownsMap Tryz.prog 80 lenElem b n D ∧ (∀ x y, W64 x → W64 y → Maps.has D (pkey x y) = S x y) ∧ ∀ kl, Maps.has D kl = true → ∃ x y : Int, W64 x ∧ W64 y ∧ kl = pkey x y ∧ ∃ m : Nat, 1 ≤ m ∧ m ≤ 1000000 ∧ ∀ z, D.atKey kl z = .lit (.int .i64 (m : Int))
theorem OMap.made (w : World) : OMap (w.alloc (.map #[] 0)) w.heap.size 0 (fun _ _ => false) :=
  ⟨_, World.ownsMap_made _ _ _ _, fun x y _ _ => by simp [Maps.has], fun kl h => by simp [Maps.has] at h⟩
theorem OMap.lt {w : World} {b n : Nat} {S : Int → Int → Bool} (h : OMap w b n S) : b < w.heap.size := by
  obtain ⟨D, h, _⟩ := h
  exact h.lt
theorem OMap.block {w w' : World} {b n : Nat} {S : Int → Int → Bool} (h : OMap w b n S) (hb : w'.heap[b]? = w.heap[b]?) : OMap w' b n S := by
  obtain ⟨D, ⟨es, clock, hh, r⟩, h2⟩ := h
  exact ⟨D, ⟨es, clock, hb.trans hh, r⟩, h2⟩
theorem OMap.below {w w' : World} {b n : Nat} {S : Int → Int → Bool} (h : OMap w b n S) (hb : Below w.heap.size w w') : OMap w' b n S := h.block (hb.block b h.lt)
theorem OMap.mk {w w' : World} {b n lo hi : Nat} {S : Int → Int → Bool} (h : OMap w b n S) (hm : Mk lo hi w w') (hn : b < lo ∨ hi ≤ b) : OMap w' b n S :=
  h.block (by rcases hn with h1 | h1; exact hm.below.block b h1; exact hm.keep b h1 h.lt)
section
variable {ops : Array Oper}
theorem wpD_put_omap {o : Oper} {rest : List (Oper × Tag)} {a : Act} {w : World} {Q : Act → World → Prop} (hgd : o.guard = none) (m k u : Operand) (hop : o.op = Op.mapUpdate 179 m k u) (b n : Nat) (S : Int → Int → Bool) (hm : a.eval m = .map (some b)) (h : OMap w b n S) (x y : Int) (hx : W64 x) (hy : W64 y) (A : Option Addr) (v c : Nat) (hv1 : 1 ≤ v) (hv2 : v ≤ 1000000) (hn : n < maxLen) (hk : a.eval k = .agg #[.int .i64 x, .int .i64 y]) (hu : a.eval u = .slice A v c)
    (hK : ∀ w', OMap w' b (n + 1) (fun i j => S i j || decide (i = x ∧ j = y)) → Mk b (b + 1) w w' → wpD Tryz.prog ops Q rest (a.put o.dst undef) w') : wpD Tryz.prog ops Q ((o, .b) :: rest) a w := by
  refine wpD_b fun K hK' => ?_
  have hw : Region.wanted o (yielded ops a.tmps) = true := by simp [Region.wanted, hgd]
  rw [if_pos hw]
  obtain ⟨D, hown, hat, hall⟩ := h
  have hl := hown.lt
  have hD := hown.isMap
  have hkl := pt_keyed.key (keyOf_pt hx hy)
  obtain ⟨w', hrun, h1, h2⟩ := hown.update pt_keyed Tryz.underlying179 hn (keyOf_pt hx hy) (show lenElem (.slice A v c) = some (.lit (.int .i64 (v : Int)), []) from rfl)
  unfold execOp
  simp only [hop, hm, hk, hu, Sem.run_bind, Sem.run_pure, hrun, Result.andThen_ok]
  refine hK' _ _ (hK w' ⟨_, h1, fun i j hi hj => ?_, fun kl hkl' => ?_⟩ ⟨(Below.refl b w).grown h2 (Nat.le_of_lt hl) (fun j hj => by cases hj; exact Nat.le_refl _), h2.size, fun i hi hlt => h2.block i hlt (fun hh => by injection hh with hh; omega)⟩)
  · by_cases hij : i = x ∧ j = y
    · obtain ⟨rfl, rfl⟩ := hij
      rw [Maps.has_put_same hD hkl]; simp
    · rw [Maps.has_put_other (fun e => hij (pkey_inj hi hj hx hy e)), hat i j hi hj]; simp [hij]
  · by_cases he : kl = pkey x y
    · subst he
      exact ⟨x, y, hx, hy, rfl, v, hv1, hv2, fun z => Maps.atKey_put_same hD hkl _ _⟩
    · rw [Maps.has_put_other he] at hkl'
      obtain ⟨i, j, hi, hj, e, m', h3, h4, h5⟩ := hall kl hkl'
      exact ⟨i, j, hi, hj, e, m', h3, h4, fun z => by rw [Maps.atKey_put_other he]; exact h5 z⟩
/-- nothing is struck where nothing stands -/
theorem wpD_del_omap {o : Oper} {rest : List (Oper × Tag)} {a : Act} {w : World} {Q : Act → World → Prop} (hgd : o.guard = none) (m k : Operand) (hop : o.op = Op.call { callee := Callee.builtin Builtin.delete, args := #[m, k], argTypes := #[179, 80] }) (b n : Nat) (S : Int → Int → Bool) (hm : a.eval m = .map (some b)) (h : OMap w b n S) (x y : Int) (hx : W64 x) (hy : W64 y) (hno : S x y = false) (hk : a.eval k = .agg #[.int .i64 x, .int .i64 y])
    (hK : ∀ w', OMap w' b n S → Mk b (b + 1) w w' → wpD Tryz.prog ops Q rest (a.put o.dst (.tuple #[])) w') : wpD Tryz.prog ops Q ((o, .b) :: rest) a w := by
  refine wpD_b fun K hK' => ?_
  have hw : Region.wanted o (yielded ops a.tmps) = true := by simp [Region.wanted, hgd]
  rw [if_pos hw]
  obtain ⟨D, hown, hat, hall⟩ := h
  have hl := hown.lt
  obtain ⟨w', hrun, h1, h2⟩ := hown.drop pt_keyed Tryz.underlying179 (keyOf_pt hx hy) o.type
  rw [Maps.del_of_not_has (by rw [hat x y hx hy]; exact hno)] at h1
  have h2 := h2.grown
  unfold execOp
  simp only [hop, resolve, invoke, builtin, Sem.run_bind, Sem.run_pure, Result.andThen_ok, List.map_toArray, List.map_cons, List.map_nil, hm, hk, hrun]
  exact hK' _ _ (hK w' ⟨D, h1, hat, hall⟩ ⟨(Below.refl b w).grown h2 (Nat.le_of_lt hl) (fun j hj => by cases hj; exact Nat.le_refl _), h2.size, fun i hi hlt => h2.block i hlt (fun hh => by injection hh with hh; omega)⟩)
end
end Go.Proofs.YtcpbppblahpjbaaGreat
/- Walks: the tile of a crystal at a point; how many options it has. -/



namespace Go.Proofs.YtcpbppblahpjbaaGreat
open Go.RowKit Go.Shelf
set_option linter.unusedSimpArgs false
set_option linter.unusedVariables false
attribute [local go_sem] BelowBy.cell BelowBy.cell_drew stillUpon givesUpon BelowBy.cell_drew2 BelowBy.cell_drew3

theorem wpD_lookg_pmap {ops : Array Oper} {o : Oper} {rest : List (Oper × Tag)} {a : Act} {w : World} {Q : Act → World → Prop} (hgd : o.guard = none) (m k : Operand) (hop : o.op = Op.lookup 178 m k true) (b n : Nat) (M : Int → Int → Option Int) (hm : a.eval m = .map (some b)) (h : PMap w b n M) (x y : Int) (hx : W64 x) (hy : W64 y) (hk : a.eval k = .agg #[.int .i64 x, .int .i64 y])
    (hK : ∀ c : Int, (∀ v, M x y = some v → c = v) → wpD Tryz.prog ops Q rest (a.put o.dst (.tuple #[.int .i64 c, .bool (M x y).isSome])) w) : wpD Tryz.prog ops Q ((o, .g) :: rest) a w := by
  refine wpD_g fun K hK' => ?_
  have hw : Region.wanted o (yielded ops a.tmps) = true := by simp [Region.wanted, hgd]
  rw [if_pos hw]
  obtain ⟨c, hc, hrun⟩ := look_run h hx hy
  unfold execOp
  simp only [hop, hm, hk, Sem.run_bind, Sem.run_pure, hrun w (Below.refl _ _), Result.andThen_ok]
  exact ⟨Below.refl _ _, hK' _ _ (hK c hc)⟩
/-- a crystal -/
structure Crys (w : World) (p tb ob : Nat) (G : Option Addr) (n cg : Nat) (T : Option Addr) (m ct : Nat) (A : Option Addr) (q ca : Nat) (t : Int) (nt : Nat) (M : Int → Int → Option Int) : Prop where
  lt : p < w.heap.size
  c0 : w.cell? ⟨p, 0, none⟩ = some (.slice G n cg)
  c1 : w.cell? ⟨p, 1, none⟩ = some (.slice T m ct)
  c2 : w.cell? ⟨p, 2, none⟩ = some (.slice A q ca)
  c3 : w.cell? ⟨p, 3, none⟩ = some (.int .i64 t)
  c4 : w.cell? ⟨p, 4, none⟩ = some (.map (some tb))
  c5 : w.cell? ⟨p, 5, none⟩ = some (.map (some ob))
  tiles : PMap w tb nt M
section
variable {w w' : World} {p tb ob : Nat} {G : Option Addr} {n cg : Nat} {T : Option Addr} {m ct : Nat} {A : Option Addr} {q ca : Nat} {t : Int} {nt : Nat} {M : Int → Int → Option Int}
theorem Crys.below (h : Crys w p tb ob G n cg T m ct A q ca t nt M) (hb : Below w.heap.size w w') : Crys w' p tb ob G n cg T m ct A q ca t nt M :=
  ⟨Nat.lt_of_lt_of_le h.lt hb.size, (hb.cell (p := ⟨p, 0, none⟩) h.lt).trans h.c0, (hb.cell (p := ⟨p, 1, none⟩) h.lt).trans h.c1, (hb.cell (p := ⟨p, 2, none⟩) h.lt).trans h.c2, (hb.cell (p := ⟨p, 3, none⟩) h.lt).trans h.c3, (hb.cell (p := ⟨p, 4, none⟩) h.lt).trans h.c4, (hb.cell (p := ⟨p, 5, none⟩) h.lt).trans h.c5, h.tiles.below hb⟩
theorem Crys.mkd {lo hi : Nat} (h : Crys w p tb ob G n cg T m ct A q ca t nt M) (hm : Mk lo hi w w') (hp : p < lo ∨ hi ≤ p) (ht : tb < lo ∨ hi ≤ tb) : Crys w' p tb ob G n cg T m ct A q ca t nt M := by
  have hk : w'.heap[p]? = w.heap[p]? := by
    rcases hp with h1 | h1
    · exact hm.below.block p h1
    · exact hm.keep p h1 h.lt
  exact ⟨Nat.lt_of_lt_of_le h.lt hm.size, (World.cell?_of_block (a := ⟨p, 0, none⟩) hk).trans h.c0, (World.cell?_of_block (a := ⟨p, 1, none⟩) hk).trans h.c1, (World.cell?_of_block (a := ⟨p, 2, none⟩) hk).trans h.c2, (World.cell?_of_block (a := ⟨p, 3, none⟩) hk).trans h.c3, (World.cell?_of_block (a := ⟨p, 4, none⟩) hk).trans h.c4, (World.cell?_of_block (a := ⟨p, 5, none⟩) hk).trans h.c5, h.tiles.mk hm ht⟩
end
set_option maxRecDepth 100000 in
set_option maxHeartbeats 1000000 in
theorem cat_at {w : World} {p tb ob : Nat} {G : Option Addr} {n cg : Nat} {T : Option Addr} {m ct : Nat} {A : Option Addr} {q ca : Nat} {t : Int} {nt : Nat} {M : Int → Int → Option Int} (h : Crys w p tb ob G n cg T m ct A q ca t nt M) {x y r : Int} (hx : W64 x) (hy : W64 y) (hr : (M x y).getD (-1) = r) :
    Calls Tryz.prog 144 #[.pointer (some ⟨p, 0, none⟩), .agg #[.int .i64 x, .int .i64 y]] w fun e w' => e = .returned (.int .i64 r) ∧ Below w.heap.size w w' := by
  
  have hT := Lib.hid h.tiles
  have c4 := h.c4
  have lp := h.lt
  clear h
  obtain ⟨o, ho⟩ : ∃ o, M x y = o := ⟨_, rfl⟩
  have hoH := Lib.hid ho
  have hrH := Lib.hid (show o.getD (-1) = r by rw [← ho]; exact hr)
  clear hr ho
  cases o
  all_goals
    go_enter Tryz.func144, Tryz.ntmps144
    go_wp2
    refine wp_region_ord [(0, .q), (1, .q), (2, .q), (3, .q), (4, .q), (5, .g), (6, .q), (7, .q), (8, .q), (9, .q), (10, .q)] (by kernel_rfl) (by kernel_rfl) ?_
    simp only [pick, List.filterMap_cons, List.filterMap_nil, List.getElem?_toArray, List.getElem?_cons_zero, List.getElem?_cons_succ, Option.map_some]
    repeat (first
      | ((with_reducible refine wpD_p (fun K hK => ?_)); go_simp; refine hK _ ?_; clear hK K)
      | ((with_reducible refine wpD_q (fun K hK => ?_)); go_simp; (first | refine hK _ ?_ | (go_bits; refine hK _ ?_) | (go_bits; go_simp; refine hK _ ?_)); clear hK K)
      | ((with_reducible refine wpD_g (fun K hK => ?_)); go_simp; refine hK _ _ ?_; clear hK K)
      | ((with_reducible refine wpD_g (fun K hK => ?_)); go_simp; refine ⟨Grew.of_alloc _, hK _ _ ?_⟩; clear hK K))
    refine wpD_lookg_pmap rfl _ _ rfl tb nt M (by go_simp) (hT.out.below (by repeat (first | with_reducible exact bl_refl _ | with_reducible assumption | with_reducible refine bl_al ?_ _ | with_reducible refine bl_dr ?_ | with_reducible refine bl_tr ?_ (by assumption) | with_reducible refine bl_set ?_ ?_ _ | with_reducible exact Nat.le_refl _ | omega | (simp only [World.size_alloc, World.size_setCell, World.size_drew] at *; omega) | (dsimp only; omega) | (simp; done) | (simp; omega)))) x y hx hy (by go_simp) ?_
    intro c hc
    rw [hoH.out] at hc ⊢
    simp only [Option.isSome_some, Option.isSome_none]
    repeat (first
      | ((with_reducible refine wpD_p (fun K hK => ?_)); go_simp; refine hK _ ?_; clear hK K)
      | ((with_reducible refine wpD_q (fun K hK => ?_)); go_simp; (first | refine hK _ ?_ | (go_bits; refine hK _ ?_) | (go_bits; go_simp; refine hK _ ?_)); clear hK K)
      | ((with_reducible refine wpD_g (fun K hK => ?_)); go_simp; refine hK _ _ ?_; clear hK K)
      | ((with_reducible refine wpD_g (fun K hK => ?_)); go_simp; refine ⟨Grew.of_alloc _, hK _ _ ?_⟩; clear hK K))
    with_reducible refine wpD_nil ?_
    go_wp2
    go_ret
    refine ⟨ret_int ?_, by repeat (first | with_reducible exact bl_refl _ | with_reducible assumption | with_reducible refine bl_al ?_ _ | with_reducible refine bl_dr ?_ | with_reducible refine bl_tr ?_ (by assumption) | with_reducible refine bl_set ?_ ?_ _ | with_reducible exact Nat.le_refl _ | omega | (simp only [World.size_alloc, World.size_setCell, World.size_drew] at *; omega) | (dsimp only; omega) | (simp; done) | (simp; omega))⟩
    first
      | exact hrH.out
      | (rw [← hrH.out]; exact hc _ rfl)
set_option maxRecDepth 100000
theorem size_zero_iff {D : DataW Unit} (hD : Maps.Canon D) : Maps.size D = 0 ↔ ∀ kl, Maps.has D kl = false := by
  obtain ⟨es, rfl, _, hk⟩ := hD
  constructor
  · intro h kl
    cases es with
    | nil => rfl
    | cons e es => cases h
  · intro h
    cases es with
    | nil => rfl
    | cons e es =>
      have := h e.1
      simp [Maps.has, WideAt.sameKey_self (hk e (by simp))] at this
theorem omap_empty {D : DataW Unit} {S : Int → Int → Bool} (hD : Maps.Canon D) (hat : ∀ x y, W64 x → W64 y → Maps.has D (pkey x y) = S x y) (hall : ∀ kl, Maps.has D kl = true → ∃ x y : Int, W64 x ∧ W64 y ∧ kl = pkey x y ∧ ∃ m : Nat, 1 ≤ m ∧ m ≤ 1000000 ∧ ∀ z, D.atKey kl z = .lit (.int .i64 (m : Int))) : Maps.size D = 0 ↔ ∀ x y, W64 x → W64 y → S x y = false := by
  rw [size_zero_iff hD]
  constructor
  · intro h x y hx hy
    rw [← hat x y hx hy]; exact h _
  · intro h kl
    cases hh : Maps.has D kl
    · rfl
    · obtain ⟨x, y, hx, hy, rfl, _⟩ := hall kl hh
      rw [hat x y hx hy, h x y hx hy] at hh
      cases hh
set_option maxRecDepth 100000 in
set_option maxHeartbeats 4000000 in
theorem count_any {w : World} {p ob no : Nat} {S : Int → Int → Bool} (lp : p < w.heap.size) (c5 : w.cell? ⟨p, 5, none⟩ = some (.map (some ob))) (h : OMap w ob no S) (hno : no ≤ 1000000) :
    Calls Tryz.prog 85 #[.pointer (some ⟨p, 0, none⟩)] w fun e w' => ∃ s : Nat, e = .returned (.int .i64 (s : Int)) ∧ (s = 0 ↔ ∀ x y, W64 x → W64 y → S x y = false) ∧ Below w.heap.size w w' := by
  obtain ⟨D, hown, hat, hall⟩ := h
  have hem := Lib.hid (omap_empty (hown.canon pt_keyed) hat hall)
  have hallH := Lib.hid hall
  have hsz := hown.size_le
  have hownH := Lib.hid hown
  obtain ⟨c0, hc0⟩ : ∃ c0, Maps.size D = c0 := ⟨_, rfl⟩
  rw [hc0] at hem hsz
  have hc0H := Lib.hid hc0
  clear hall hat hown hc0
  go_enter Tryz.func85, Tryz.ntmps85
  go_wp2_with (at_range; refine wpList_range_own _ rfl _ 179 rfl _ _ pt_keyed Tryz.underlying179 _ ob no D rfl hownH.out ?_; intro w0 hrg0 hg0 hs0; go_frame)
  rw [hc0H.out] at hrg0
  go_loopg [3] c0 (fun g sv wr => ∃ (gg s : Nat) (left : Lit → Bool), gg = g ∧ sv = .int .i64 (s : Int) ∧ wr.ranges Tryz.prog 80 lenElem ob w.heap.size no D left g ∧ Hid (∀ z, left z = true → Maps.has D z = true) ∧ g ≤ c0 ∧ (s = 0 → g = c0) ∧ s ≤ (c0 - g) * 1000000 ∧ Hid (Below w.heap.size w wr))
  case atStart => exact ⟨_, 0, _, rfl, rfl, hrg0, Lib.hid (fun z hz => hz), Nat.le_refl _, fun _ => rfl, by omega, Lib.hid ((Below.refl _ _).grown hg0 (Nat.le_refl _) (fun j hj => by cases hj))⟩
  case round =>
    obtain ⟨gg, s, left, rfl, rfl, hrg, hlf, hgc, hs1, hs2, hbw⟩ := hrel
    go_wp2_with (at_next; refine wpList_next_ranges _ rfl _ rfl _ pt_keyed lenElem (fun v : Value => v) (fun c : Option Addr × Nat × Nat => Value.slice c.1 c.2.1 c.2.2) (fun key kl _ => ⟨key, rfl⟩) lenElem_inv ob w.heap.size no D left _ rfl hrg ?_ ?_)
    · intro hg0' _
      go_wp2
      go_ret
      refine ⟨s, rfl, ?_, hbw.out⟩
      rw [← hem.out]
      omega
    · intro key C v cc kl y1 y2 w1 cnt1 hkey hlk hR hat1 hrg1 hlt hg1 hsz1 hen
      obtain ⟨_, _, _, _, _, mm, hm1, hm2, hma⟩ := hallH.out kl (hlf.out kl hlk)
      have hv : v = mm := by
        have h1 := hat1 (.lit (.int .i64 0))
        rw [hma] at h1
        simp only [lenElem, Option.some.injEq, Prod.mk.injEq] at hR
        rw [← hR.1] at h1
        injection h1 with h1
        injection h1 with _ h1
        omega
      subst hv
      have hbd : s ≤ 1000000000000 := by
        have : (c0 - gg) * 1000000 ≤ 1000000 * 1000000 := Nat.mul_le_mul_right _ (Nat.le_trans (Nat.sub_le _ _) (Nat.le_trans hsz hno))
        exact Nat.le_trans hs2 this
      have hlf1 := Lib.hid (show ∀ z, (left z && !z.sameKey kl) = true → Maps.has D z = true from fun z hz => hlf.out z (by simp only [Bool.and_eq_true] at hz; exact hz.1))
      have hrgH := Lib.hid hrg1
      have hb1 := Lib.hid (hbw.out.grown hg1 hbw.out.size (fun j hj => by cases hj; exact Nat.le_refl _))
      clear hat1 hR hma hrg1 hkey
      go_wp2
      go_roundg cnt1
      case measure => exact hlt
      case rel => exact ⟨_, s + v, _, rfl, by go_num, hrgH.out, hlf1, by omega, fun h0 => by omega, by
        have h3 : c0 - cnt1 ≥ c0 - gg + 1 := by omega
        have h4 := Nat.mul_le_mul_right 1000000 h3
        omega, hb1⟩
end Go.Proofs.YtcpbppblahpjbaaGreat
/- Walks: with what strength a tile binds at a point of a crystal; whether it fits. -/

namespace Go.Proofs.YtcpbppblahpjbaaGreat
open Go.RowKit Go.Shelf
set_option linter.unusedSimpArgs false
set_option linter.unusedVariables false
attribute [local go_sem] BelowBy.cell BelowBy.cell_drew stillUpon givesUpon BelowBy.cell_drew2 BelowBy.cell_drew3

theorem stepX_in {x : Int} {k : Nat} (h : -900 ≤ x ∧ x ≤ 900) : -1000000 ≤ stepX x k ∧ stepX x k ≤ 1000000 := by
  unfold stepX; split <;> omega
theorem stepY_in {y : Int} {k : Nat} (h : -900 ≤ y ∧ y ≤ 900) : -1000000 ≤ stepY y k ∧ stepY y k ≤ 1000000 := by
  unfold stepY; split <;> omega
set_option maxRecDepth 100000 in
set_option maxHeartbeats 2000000 in
theorem cbinding_any {p tb ob : Nat} {A : Option Addr} {q ca : Nat} {te : Int} {nt : Nat} {M : Int → Int → Option Int} (G T : Option Addr) (n cg m ct : Nat) (gs : List Gl) (ts : List Ti) (xs : List Pl) (x y : Int) (t : Nat) (w : World) (hG : RdSl 2 RGl w G n gs) (hT : RdSl 2 RTi w T m ts) (hC : Crys w p tb ob G n cg T m ct A q ca te nt M) (hM : ∀ i j, W64 i → W64 j → (M i j).getD (-1) = atI xs i j) (hV : Valid gs ts xs) (ht : t < ts.length) (hx : -900 ≤ x ∧ x ≤ 900) (hy : -900 ≤ y ∧ y ≤ 900) :
    Calls Tryz.prog 125 #[.agg #[.slice G n cg, .slice T m ct], .agg #[.int .i64 x, .int .i64 y], .int .i64 (t : Int), .func (.func 144) #[.pointer (some ⟨p, 0, none⟩)] #[]] w fun e w' => e = .returned (.int .i64 (bindN gs ts xs x y t 4)) ∧ Below w.heap.size w w' := by
  
  have hCH := Lib.hid hC
  have hMH := Lib.hid hM
  clear hC hM
  go_enter Tryz.func125, Tryz.ntmps125
  go_wp2
  go_loopg [12, 9] 4 (fun r c s wr => ∃ k : Nat, k + r = 4 ∧ c = .int .i64 (k : Int) ∧ s = .int .i64 (bindN gs ts xs x y t k) ∧ Below w.heap.size w wr ∧ wr.cell? ⟨w.heap.size, 0, none⟩ = some (.slice G n cg) ∧ wr.cell? ⟨w.heap.size, 1, none⟩ = some (.slice T m ct) ∧ wr.cell? ⟨w.heap.size + 1, 0, none⟩ = some (.int .i64 x) ∧ wr.cell? ⟨w.heap.size + 1, 1, none⟩ = some (.int .i64 y) ∧ w.heap.size + 1 < wr.heap.size)
  case atStart => exact ⟨0, by omega, rfl, rfl, by repeat (first | with_reducible exact bl_refl _ | with_reducible assumption | with_reducible refine bl_al ?_ _ | with_reducible refine bl_dr ?_ | with_reducible refine bl_tr ?_ (by assumption) | with_reducible refine bl_set ?_ ?_ _ | with_reducible exact Nat.le_refl _ | omega | (simp only [World.size_alloc, World.size_setCell, World.size_drew] at *; omega) | (dsimp only; omega) | (simp; done) | (simp; omega)), by go_simp, by go_simp, by go_simp, by go_simp, by simp⟩
  case round =>
    obtain ⟨k, hk, rfl, rfl, hbw, y0, y1, y2, y3, hsz⟩ := hrel
    have hbd := bindN_bound hV x y t k
    have hsz0 : w.heap.size < wr.heap.size := by omega
    by_cases hlt : k < 4
    · have hltI : (k : Int) < 4 := by omega
      have hk0 : (0 : Int) ≤ (k : Int) := by omega
      obtain ⟨S, hS⟩ : ∃ S, bindN gs ts xs x y t k = S := ⟨_, rfl⟩
      rw [hS] at hbd
      rw [hS]
      have hSH := Lib.hid hS
      clear hS
      have hb0 : 0 ≤ S := hbd.1
      have hb1' : S ≤ 1000 := by have := hbd.2; omega
      clear hbd
      have hw1 := Lib.hid (show W64 (stepX x k) from W64.of (stepX_in (by omega)))
      have hw2 := Lib.hid (show W64 (stepY y k) from W64.of (stepY_in (by omega)))
      rcases atI_cases hV (stepX x k) (stepY y k) with ⟨_, hat⟩ | ⟨i, t2, e, _, _, _, ht2, hat⟩
      · have hatH := Lib.hid hat
        have hgt := Lib.hid ((hMH.out _ _ hw1.out hw2.out).trans hat)
        have hnx := Lib.hid (bindN_succ_none hSH.out hat)
        clear hat
        go_wp2_with (first
          | (go_at_call 179; refine (step_at k rfl hlt ⟨by omega, by omega⟩ ⟨by omega, by omega⟩ rfl rfl).mono ?_; rintro e w1 ⟨rfl, hb1⟩; obtain ⟨chb1, fhb1, shb1, thb1⟩ := bcell hb1; (try have bhb10 := shb1 (w.heap.size) (by go_simp)); (try have bhb11 := shb1 (w.heap.size + 1) (by go_simp)))
          | (go_at_call 144; refine (cat_at (hCH.out.below (by repeat (first | with_reducible exact bl_refl _ | with_reducible assumption | with_reducible refine bl_al ?_ _ | with_reducible refine bl_dr ?_ | with_reducible refine bl_tr ?_ (by assumption) | with_reducible refine bl_set ?_ ?_ _ | with_reducible exact Nat.le_refl _ | omega | (simp only [World.size_alloc, World.size_setCell, World.size_drew] at *; omega) | (dsimp only; omega) | (simp; done) | (simp; omega)))) hw1.out hw2.out hgt.out).mono ?_; rintro e w2 ⟨rfl, hb2⟩; obtain ⟨chb2, fhb2, shb2, thb2⟩ := bcell hb2; (try have bhb20 := shb2 (w.heap.size) (by go_simp)); (try have bhb21 := shb2 (w.heap.size + 1) (by go_simp))))
        go_roundg (4 - (k + 1))
        case measure => omega
        case rel => exact ⟨k + 1, by omega, by go_num, by rw [hnx.out], by repeat (first | with_reducible exact bl_refl _ | with_reducible assumption | with_reducible refine bl_al ?_ _ | with_reducible refine bl_dr ?_ | with_reducible refine bl_tr ?_ (by assumption) | with_reducible refine bl_set ?_ ?_ _ | with_reducible exact Nat.le_refl _ | omega | (simp only [World.size_alloc, World.size_setCell, World.size_drew] at *; omega) | (dsimp only; omega) | (simp; done) | (simp; omega)), by go_simp, by go_simp, by go_simp, by go_simp, by go_simp⟩
      · obtain ⟨r, hr⟩ : ∃ r, bondI gs ts t k t2 = r := ⟨_, rfl⟩
        have hatH := Lib.hid hat
        have hgt := Lib.hid ((hMH.out _ _ hw1.out hw2.out).trans hat)
        have hrH := Lib.hid hr
        have hnx := Lib.hid (bindN_succ_some hSH.out hat hr)
        have hr0 : 0 ≤ r := by rw [← hr]; exact bondI_nonneg hV _ _ _
        have hr4 : r ≤ 4 := by rw [← hr]; exact bondI_le hV _ _ _
        have ht20 : (0 : Int) ≤ (t2 : Int) := by omega
        clear hat hr
        go_wp2_with (first
          | (go_at_call 179; refine (step_at k rfl hlt ⟨by omega, by omega⟩ ⟨by omega, by omega⟩ rfl rfl).mono ?_; rintro e w1 ⟨rfl, hb1⟩; obtain ⟨chb1, fhb1, shb1, thb1⟩ := bcell hb1; (try have bhb10 := shb1 (w.heap.size) (by go_simp)); (try have bhb11 := shb1 (w.heap.size + 1) (by go_simp)))
          | (go_at_call 144; refine (cat_at (hCH.out.below (by repeat (first | with_reducible exact bl_refl _ | with_reducible assumption | with_reducible refine bl_al ?_ _ | with_reducible refine bl_dr ?_ | with_reducible refine bl_tr ?_ (by assumption) | with_reducible refine bl_set ?_ ?_ _ | with_reducible exact Nat.le_refl _ | omega | (simp only [World.size_alloc, World.size_setCell, World.size_drew] at *; omega) | (dsimp only; omega) | (simp; done) | (simp; omega)))) hw1.out hw2.out hgt.out).mono ?_; rintro e w2 ⟨rfl, hb2⟩; obtain ⟨chb2, fhb2, shb2, thb2⟩ := bcell hb2; (try have bhb20 := shb2 (w.heap.size) (by go_simp)); (try have bhb21 := shb2 (w.heap.size + 1) (by go_simp)))
          | (go_at_call 162; refine (bond_at t k t2 rfl rfl rfl (hG.below RGl.stable (by repeat (first | with_reducible exact bl_refl _ | with_reducible assumption | with_reducible refine bl_al ?_ _ | with_reducible refine bl_dr ?_ | with_reducible refine bl_tr ?_ (by assumption) | with_reducible refine bl_set ?_ ?_ _ | with_reducible exact Nat.le_refl _ | omega | (simp only [World.size_alloc, World.size_setCell, World.size_drew] at *; omega) | (dsimp only; omega) | (simp; done) | (simp; omega)))) (hT.below RTi.stable (by repeat (first | with_reducible exact bl_refl _ | with_reducible assumption | with_reducible refine bl_al ?_ _ | with_reducible refine bl_dr ?_ | with_reducible refine bl_tr ?_ (by assumption) | with_reducible refine bl_set ?_ ?_ _ | with_reducible exact Nat.le_refl _ | omega | (simp only [World.size_alloc, World.size_setCell, World.size_drew] at *; omega) | (dsimp only; omega) | (simp; done) | (simp; omega)))) hV ht ht2 hlt hrH.out).mono ?_; rintro e w3 ⟨rfl, hb3⟩; obtain ⟨chb3, fhb3, shb3, thb3⟩ := bcell hb3; (try have bhb30 := shb3 (w.heap.size) (by go_simp)); (try have bhb31 := shb3 (w.heap.size + 1) (by go_simp))))
        go_roundg (4 - (k + 1))
        case measure => omega
        case rel => exact ⟨k + 1, by omega, by go_num, by rw [hnx.out], by repeat (first | with_reducible exact bl_refl _ | with_reducible assumption | with_reducible refine bl_al ?_ _ | with_reducible refine bl_dr ?_ | with_reducible refine bl_tr ?_ (by assumption) | with_reducible refine bl_set ?_ ?_ _ | with_reducible exact Nat.le_refl _ | omega | (simp only [World.size_alloc, World.size_setCell, World.size_drew] at *; omega) | (dsimp only; omega) | (simp; done) | (simp; omega)), by go_simp, by go_simp, by go_simp, by go_simp, by go_simp⟩
    · obtain rfl : k = 4 := by omega
      go_wp2
      go_ret
      exact ⟨rfl, hbw⟩
end Go.Proofs.YtcpbppblahpjbaaGreat
/- Walk: whether a tile fits at a point of a crystal. -/

namespace Go.Proofs.YtcpbppblahpjbaaGreat
open Go.RowKit Go.Shelf
set_option linter.unusedSimpArgs false
set_option linter.unusedVariables false
attribute [local go_sem] BelowBy.cell BelowBy.cell_drew stillUpon givesUpon BelowBy.cell_drew2 BelowBy.cell_drew3

/-- a tile fits at a point -/
noncomputable def fitB (gs : List Gl) (ts : List Ti) (ys : List Pl) (t x y : Int) (k : Nat) : Bool := validPt x y && decide (atI ys x y < 0) && decide (t ≤ bindN gs ts ys x y k 4)
section
variable {gs : List Gl} {ts : List Ti} {ys : List Pl} {t x y : Int} {k : Nat} {b : Bool}
theorem fitB_pt (h : validPt x y = false) (hb : fitB gs ts ys t x y k = b) : false = b := by rw [← hb]; unfold fitB; rw [h]; rfl
theorem fitB_on {a : Int} (ha : atI ys x y = a) (h : ¬ a < 0) (hb : fitB gs ts ys t x y k = b) : false = b := by rw [← hb]; unfold fitB; rw [ha]; simp [h]
theorem fitB_off {a r : Int} (h1 : validPt x y = true) (ha : atI ys x y = a) (h : a < 0) (hr : bindN gs ts ys x y k 4 = r) (hb : fitB gs ts ys t x y k = b) : decide (t ≤ r) = b := by rw [← hb]; unfold fitB; rw [ha, h1, hr]; simp [h]
end
theorem cbinding_at {p tb ob : Nat} {A : Option Addr} {q ca : Nat} {te : Int} {nt : Nat} {M : Int → Int → Option Int} {G T : Option Addr} {n cg m ct : Nat} {gs : List Gl} {ts : List Ti} {xs : List Pl} {x y r : Int} {t : Nat} {w : World} (hG : RdSl 2 RGl w G n gs) (hT : RdSl 2 RTi w T m ts) (hC : Crys w p tb ob G n cg T m ct A q ca te nt M) (hM : ∀ i j, W64 i → W64 j → (M i j).getD (-1) = atI xs i j) (hV : Valid gs ts xs) (ht : t < ts.length) (hx : -900 ≤ x ∧ x ≤ 900) (hy : -900 ≤ y ∧ y ≤ 900) (hr : bindN gs ts xs x y t 4 = r) :
    Calls Tryz.prog 125 #[.agg #[.slice G n cg, .slice T m ct], .agg #[.int .i64 x, .int .i64 y], .int .i64 (t : Int), .func (.func 144) #[.pointer (some ⟨p, 0, none⟩)] #[]] w fun e w' => e = .returned (.int .i64 r) ∧ Below w.heap.size w w' :=
  hr ▸ cbinding_any G T n cg m ct gs ts xs x y t w hG hT hC hM hV ht hx hy
theorem ValidPoint_at {x y : Int} {w : World} {b : Bool} (h : validPt x y = b) :
    Calls Tryz.prog 143 #[.agg #[.int .i64 x, .int .i64 y]] w fun e w' => e = .returned (.bool b) ∧ Below w.heap.size w w' := h ▸ ValidPoint_any x y w
set_option maxRecDepth 100000 in
set_option maxHeartbeats 2000000 in
theorem fits_any {p tb ob : Nat} {A : Option Addr} {q ca : Nat} {te : Int} {nt : Nat} {M : Int → Int → Option Int} (G T : Option Addr) (n cg m ct : Nat) (gs : List Gl) (ts : List Ti) (xs : List Pl) (x y : Int) (k : Nat) (w : World) (hG : RdSl 2 RGl w G n gs) (hT : RdSl 2 RTi w T m ts) (hC : Crys w p tb ob G n cg T m ct A q ca te nt M) (hM : ∀ i j, W64 i → W64 j → (M i j).getD (-1) = atI xs i j) (hV : Valid gs ts xs) (hk : k < ts.length) (hx : -900 ≤ x ∧ x ≤ 900) (hy : -900 ≤ y ∧ y ≤ 900) {b : Bool} (hb : fitB gs ts xs te x y k = b) :
    Calls Tryz.prog 92 #[.pointer (some ⟨p, 0, none⟩), .agg #[.int .i64 x, .int .i64 y], .int .i64 (k : Int)] w fun e w' => e = .returned (.bool b) ∧ Below w.heap.size w w' := by
  
  have lp := hC.lt
  have lp' : p ≤ w.heap.size := Nat.le_of_lt lp
  have c0 := hC.c0
  have c1 := hC.c1
  have c3 := hC.c3
  have hCH := Lib.hid hC
  have hMH := Lib.hid hM
  have hbH := Lib.hid hb
  have hw1 := Lib.hid (show W64 x from W64.of (by omega))
  have hw2 := Lib.hid (show W64 y from W64.of (by omega))
  obtain ⟨a, ha⟩ : ∃ a, atI xs x y = a := ⟨_, rfl⟩
  have haH := Lib.hid ha
  have hgt := Lib.hid ((hM _ _ hw1.out hw2.out).trans ha)
  obtain ⟨r, hr⟩ : ∃ r, bindN gs ts xs x y k 4 = r := ⟨_, rfl⟩
  have hrH := Lib.hid hr
  have hGH := Lib.hid hG
  have hTH := Lib.hid hT
  clear hC hM hb ha hr hG hT
  cases hv : validPt x y
  · have hvH := Lib.hid hv
    have hres := Lib.hid (fitB_pt hv hbH.out)
    clear hv
    go_enter Tryz.func92, Tryz.ntmps92
    go_wp2
    refine wp_region_ord [(0, .q), (1, .g), (2, .q), (3, .q), (4, .q), (5, .g), (6, .q), (7, .q), (8, .q), (9, .q), (10, .q), (11, .q), (12, .q), (13, .q), (14, .q), (15, .q), (16, .q), (19, .q), (20, .q), (21, .q), (22, .q), (23, .q), (17, .g), (18, .g), (24, .q), (25, .q), (26, .q)] (by kernel_rfl) (by kernel_rfl) ?_
    simp only [pick, List.filterMap_cons, List.filterMap_nil, List.getElem?_toArray, List.getElem?_cons_zero, List.getElem?_cons_succ, Option.map_some]
    repeat (first
      | ((with_reducible refine wpD_p (fun K hK => ?_)); go_simp; refine hK _ ?_; clear hK K)
      | ((with_reducible refine wpD_q (fun K hK => ?_)); go_simp; (first | refine hK _ ?_ | (go_bits; refine hK _ ?_) | (go_bits; go_simp; refine hK _ ?_)); clear hK K)
      | ((with_reducible refine wpD_g (fun K hK => ?_)); go_simp; refine hK _ _ ?_; clear hK K)
      | ((with_reducible refine wpD_g (fun K hK => ?_)); go_simp; refine ⟨Grew.of_alloc _, hK _ _ ?_⟩; clear hK K)
      | ((with_reducible refine wpD_g (fun K hK => ?_)); go_simp; refine ⟨Below.refl _ _, hK _ _ ?_⟩; clear hK K)
      | ((with_reducible refine wpD_g (fun K hK => ?_)); go_simp; go_at_call 143; refine (ValidPoint_at hvH.out).mono ?_; rintro e w1 ⟨rfl, hb1⟩; refine ⟨_, rfl, hb1, hK _ _ ?_⟩; clear hK K; obtain ⟨chb1, fhb1, shb1, thb1⟩ := bcell hb1; (try have bhb10 := shb1 (w.heap.size) (by go_simp)); (try have bhb11 := shb1 (p) (by go_simp))))
    with_reducible refine wpD_nil ?_
    go_wp2
    go_ret
    exact ⟨ret_bool hres.out, by repeat (first | with_reducible exact bl_refl _ | with_reducible assumption | with_reducible refine bl_al ?_ _ | with_reducible refine bl_dr ?_ | with_reducible refine bl_tr ?_ (by assumption) | with_reducible refine bl_set ?_ ?_ _ | with_reducible exact Nat.le_refl _ | omega | (simp only [World.size_alloc, World.size_setCell, World.size_drew] at *; omega) | (dsimp only; omega) | (simp; done) | (simp; omega))⟩
  · by_cases h0 : a < 0
    · have hvH := Lib.hid hv
      have hres := Lib.hid (fitB_off hv haH.out h0 hrH.out hbH.out)
      clear hv
      go_enter Tryz.func92, Tryz.ntmps92
      go_wp2
      refine wp_region_ord [(0, .q), (1, .g), (2, .q), (3, .q), (4, .q), (5, .g), (6, .q), (7, .q), (8, .q), (9, .q), (10, .q), (11, .q), (12, .q), (13, .q), (14, .q), (15, .q), (16, .q), (19, .q), (20, .q), (21, .q), (22, .q), (23, .q), (17, .g), (18, .g), (24, .q), (25, .q), (26, .q)] (by kernel_rfl) (by kernel_rfl) ?_
      simp only [pick, List.filterMap_cons, List.filterMap_nil, List.getElem?_toArray, List.getElem?_cons_zero, List.getElem?_cons_succ, Option.map_some]
      repeat (first
        | ((with_reducible refine wpD_p (fun K hK => ?_)); go_simp; refine hK _ ?_; clear hK K)
        | ((with_reducible refine wpD_q (fun K hK => ?_)); go_simp; (first | refine hK _ ?_ | (go_bits; refine hK _ ?_) | (go_bits; go_simp; refine hK _ ?_)); clear hK K)
        | ((with_reducible refine wpD_g (fun K hK => ?_)); go_simp; refine hK _ _ ?_; clear hK K)
        | ((with_reducible refine wpD_g (fun K hK => ?_)); go_simp; refine ⟨Grew.of_alloc _, hK _ _ ?_⟩; clear hK K)
        | ((with_reducible refine wpD_g (fun K hK => ?_)); go_simp; refine ⟨Below.refl _ _, hK _ _ ?_⟩; clear hK K)
        | ((with_reducible refine wpD_g (fun K hK => ?_)); go_simp; go_at_call 143; refine (ValidPoint_at hvH.out).mono ?_; rintro e w1 ⟨rfl, hb1⟩; refine ⟨_, rfl, hb1, hK _ _ ?_⟩; clear hK K; obtain ⟨chb1, fhb1, shb1, thb1⟩ := bcell hb1; (try have bhb10 := shb1 (w.heap.size) (by go_simp)); (try have bhb11 := shb1 (p) (by go_simp)))
        | ((with_reducible refine wpD_g (fun K hK => ?_)); go_simp; go_at_call 144; refine (cat_at (hCH.out.below (by repeat (first | with_reducible exact bl_refl _ | with_reducible assumption | with_reducible refine bl_al ?_ _ | with_reducible refine bl_dr ?_ | with_reducible refine bl_tr ?_ (by assumption) | with_reducible refine bl_set ?_ ?_ _ | with_reducible exact Nat.le_refl _ | omega | (simp only [World.size_alloc, World.size_setCell, World.size_drew] at *; omega) | (dsimp only; omega) | (simp; done) | (simp; omega)))) hw1.out hw2.out hgt.out).mono ?_; rintro e w2 ⟨rfl, hb2⟩; refine ⟨_, rfl, hb2, hK _ _ ?_⟩; clear hK K; obtain ⟨chb2, fhb2, shb2, thb2⟩ := bcell hb2; (try have bhb20 := shb2 (w.heap.size) (by go_simp)); (try have bhb21 := shb2 (p) (by go_simp))))
      with_reducible refine wpD_g (fun K hK => ?_)
      go_simp
      refine (cbinding_at (hGH.out.below RGl.stable (by repeat (first | with_reducible exact bl_refl _ | with_reducible assumption | with_reducible refine bl_al ?_ _ | with_reducible refine bl_dr ?_ | with_reducible refine bl_tr ?_ (by assumption) | with_reducible refine bl_set ?_ ?_ _ | with_reducible exact Nat.le_refl _ | omega | (simp only [World.size_alloc, World.size_setCell, World.size_drew] at *; omega) | (dsimp only; omega) | (simp; done) | (simp; omega)))) (hTH.out.below RTi.stable (by repeat (first | with_reducible exact bl_refl _ | with_reducible assumption | with_reducible refine bl_al ?_ _ | with_reducible refine bl_dr ?_ | with_reducible refine bl_tr ?_ (by assumption) | with_reducible refine bl_set ?_ ?_ _ | with_reducible exact Nat.le_refl _ | omega | (simp only [World.size_alloc, World.size_setCell, World.size_drew] at *; omega) | (dsimp only; omega) | (simp; done) | (simp; omega)))) (hCH.out.below (by repeat (first | with_reducible exact bl_refl _ | with_reducible assumption | with_reducible refine bl_al ?_ _ | with_reducible refine bl_dr ?_ | with_reducible refine bl_tr ?_ (by assumption) | with_reducible refine bl_set ?_ ?_ _ | with_reducible exact Nat.le_refl _ | omega | (simp only [World.size_alloc, World.size_setCell, World.size_drew] at *; omega) | (dsimp only; omega) | (simp; done) | (simp; omega)))) hMH.out hV hk hx hy hrH.out).mono ?_
      rintro e' w3 ⟨rfl, hb3⟩
      refine ⟨_, rfl, hb3, hK _ _ ?_⟩
      clear hK K
      obtain ⟨chb3, fhb3, shb3, thb3⟩ := bcell hb3
      (try have b31 := shb3 p (by go_simp))
      repeat (first
        | ((with_reducible refine wpD_p (fun K hK => ?_)); go_simp; refine hK _ ?_; clear hK K)
        | ((with_reducible refine wpD_q (fun K hK => ?_)); go_simp; (first | refine hK _ ?_ | (go_bits; refine hK _ ?_) | (go_bits; go_simp; refine hK _ ?_)); clear hK K)
        | ((with_reducible refine wpD_g (fun K hK => ?_)); go_simp; refine hK _ _ ?_; clear hK K)
        | ((with_reducible refine wpD_g (fun K hK => ?_)); go_simp; refine ⟨Grew.of_alloc _, hK _ _ ?_⟩; clear hK K))
      with_reducible refine wpD_nil ?_
      go_wp2
      go_ret
      exact ⟨ret_bool hres.out, by repeat (first | with_reducible exact bl_refl _ | with_reducible assumption | with_reducible refine bl_al ?_ _ | with_reducible refine bl_dr ?_ | with_reducible refine bl_tr ?_ (by assumption) | with_reducible refine bl_set ?_ ?_ _ | with_reducible exact Nat.le_refl _ | omega | (simp only [World.size_alloc, World.size_setCell, World.size_drew] at *; omega) | (dsimp only; omega) | (simp; done) | (simp; omega))⟩
    · have hvH := Lib.hid hv
      have hres := Lib.hid (fitB_on haH.out h0 hbH.out)
      have h1 : 0 ≤ a := by omega
      have h2 : decide (a < 0) = false := decide_eq_false h0
      clear hv
      go_enter Tryz.func92, Tryz.ntmps92
      go_wp2
      refine wp_region_ord [(0, .q), (1, .g), (2, .q), (3, .q), (4, .q), (5, .g), (6, .q), (7, .q), (8, .q), (9, .q), (10, .q), (11, .q), (12, .q), (13, .q), (14, .q), (15, .q), (16, .q), (19, .q), (20, .q), (21, .q), (22, .q), (23, .q), (17, .g), (18, .g), (24, .q), (25, .q), (26, .q)] (by kernel_rfl) (by kernel_rfl) ?_
      simp only [pick, List.filterMap_cons, List.filterMap_nil, List.getElem?_toArray, List.getElem?_cons_zero, List.getElem?_cons_succ, Option.map_some]
      repeat (first
        | ((with_reducible refine wpD_p (fun K hK => ?_)); go_simp; refine hK _ ?_; clear hK K)
        | ((with_reducible refine wpD_q (fun K hK => ?_)); go_simp; (first | refine hK _ ?_ | (go_bits; refine hK _ ?_) | (go_bits; go_simp; refine hK _ ?_)); clear hK K)
        | ((with_reducible refine wpD_g (fun K hK => ?_)); go_simp; refine hK _ _ ?_; clear hK K)
        | ((with_reducible refine wpD_g (fun K hK => ?_)); go_simp; refine ⟨Grew.of_alloc _, hK _ _ ?_⟩; clear hK K)
        | ((with_reducible refine wpD_g (fun K hK => ?_)); go_simp; refine ⟨Below.refl _ _, hK _ _ ?_⟩; clear hK K)
        | ((with_reducible refine wpD_g (fun K hK => ?_)); go_simp; go_at_call 143; refine (ValidPoint_at hvH.out).mono ?_; rintro e w1 ⟨rfl, hb1⟩; refine ⟨_, rfl, hb1, hK _ _ ?_⟩; clear hK K; obtain ⟨chb1, fhb1, shb1, thb1⟩ := bcell hb1; (try have bhb10 := shb1 (w.heap.size) (by go_simp)); (try have bhb11 := shb1 (p) (by go_simp)))
        | ((with_reducible refine wpD_g (fun K hK => ?_)); go_simp; go_at_call 144; refine (cat_at (hCH.out.below (by repeat (first | with_reducible exact bl_refl _ | with_reducible assumption | with_reducible refine bl_al ?_ _ | with_reducible refine bl_dr ?_ | with_reducible refine bl_tr ?_ (by assumption) | with_reducible refine bl_set ?_ ?_ _ | with_reducible exact Nat.le_refl _ | omega | (simp only [World.size_alloc, World.size_setCell, World.size_drew] at *; omega) | (dsimp only; omega) | (simp; done) | (simp; omega)))) hw1.out hw2.out hgt.out).mono ?_; rintro e w2 ⟨rfl, hb2⟩; refine ⟨_, rfl, hb2, hK _ _ ?_⟩; clear hK K; obtain ⟨chb2, fhb2, shb2, thb2⟩ := bcell hb2; (try have bhb20 := shb2 (w.heap.size) (by go_simp)); (try have bhb21 := shb2 (p) (by go_simp))))
      with_reducible refine wpD_nil ?_
      go_wp2
      go_ret
      exact ⟨ret_bool hres.out, by repeat (first | with_reducible exact bl_refl _ | with_reducible assumption | with_reducible refine bl_al ?_ _ | with_reducible refine bl_dr ?_ | with_reducible refine bl_tr ?_ (by assumption) | with_reducible refine bl_set ?_ ?_ _ | with_reducible exact Nat.le_refl _ | omega | (simp only [World.size_alloc, World.size_setCell, World.size_drew] at *; omega) | (dsimp only; omega) | (simp; done) | (simp; omega))⟩
end Go.Proofs.YtcpbppblahpjbaaGreat
/- Walk: the tiles that can attach at the points next to a point. -/



namespace Go.Proofs.YtcpbppblahpjbaaGreat
open Go.RowKit Go.Shelf
set_option linter.unusedSimpArgs false
set_option linter.unusedVariables false
attribute [local go_sem] BelowBy.cell BelowBy.cell_drew stillUpon givesUpon BelowBy.cell_drew2 BelowBy.cell_drew3

/-- one of the first m tiles fits -/
noncomputable def fitU (gs : List Gl) (ts : List Ti) (ys : List Pl) (t x y : Int) : Nat → Bool
  | 0 => false
  | k + 1 => fitU gs ts ys t x y k || fitB gs ts ys t x y k
/-- some tile fits -/
noncomputable def fitA (gs : List Gl) (ts : List Ti) (ys : List Pl) (t x y : Int) : Bool := fitU gs ts ys t x y ts.length
/-- the points next to a point of which F holds are laid in -/
def lookS (F S : Int → Int → Bool) (x y : Int) : Nat → Int → Int → Bool
  | 0 => S
  | d + 1 => fun i j => lookS F S x y d i j || (decide (i = stepX x (d : Nat) ∧ j = stepY y (d : Nat)) && F i j)
theorem lookS_sub {F S : Int → Int → Bool} (h : ∀ i j, S i j = true → F i j = true) (x y : Int) : ∀ d i j, lookS F S x y d i j = true → F i j = true
  | 0, i, j, hh => h i j hh
  | d + 1, i, j, hh => by
    simp only [lookS, Bool.or_eq_true, Bool.and_eq_true] at hh
    rcases hh with hh | hh
    · exact lookS_sub h x y d i j hh
    · exact hh.2
theorem lookS_yes {F S : Int → Int → Bool} {x y : Int} {d : Nat} (h : F (stepX x (d : Nat)) (stepY y (d : Nat)) = true) : (fun i j => lookS F S x y d i j || decide (i = stepX x (d : Nat) ∧ j = stepY y (d : Nat))) = lookS F S x y (d + 1) := by
  funext i j
  simp only [lookS]
  by_cases hij : i = stepX x (d : Nat) ∧ j = stepY y (d : Nat)
  · obtain ⟨rfl, rfl⟩ := hij; rw [h]; simp
  · simp [hij]
theorem lookS_no {F S : Int → Int → Bool} {x y : Int} {d : Nat} (h : F (stepX x (d : Nat)) (stepY y (d : Nat)) = false) : lookS F S x y d = lookS F S x y (d + 1) := by
  funext i j
  simp only [lookS]
  by_cases hij : i = stepX x (d : Nat) ∧ j = stepY y (d : Nat)
  · obtain ⟨rfl, rfl⟩ := hij; rw [h]; simp
  · simp [hij]
set_option maxRecDepth 100000 in
set_option maxHeartbeats 4000000 in
theorem lookAround_any {p tb ob no : Nat} {A : Option Addr} {q ca : Nat} {te : Int} {nt : Nat} {M : Int → Int → Option Int} {S : Int → Int → Bool} {G T : Option Addr} {n cg m ct : Nat} {gs : List Gl} {ts : List Ti} {xs : List Pl} {x y : Int} {w0 w : World} (hG : RdSl 2 RGl w0 G n gs) (hT : RdSl 2 RTi w0 T m ts) (hB : Below w0.heap.size w0 w) (h0 : w0.heap.size ≤ ob) (hC : Crys w p tb ob G n cg T m ct A q ca te nt M) (hM : ∀ i j, W64 i → W64 j → (M i j).getD (-1) = atI xs i j) (hO : OMap w ob no S) (hno : no ≤ 1000000) (hpo : p < ob ∨ ob + 1 ≤ p) (hto : tb < ob ∨ ob + 1 ≤ tb) (hS : ∀ i j, S i j = true → fitA gs ts xs te i j = true) (hV : Valid gs ts xs) (hx : -800 ≤ x ∧ x ≤ 800) (hy : -800 ≤ y ∧ y ≤ 800) :
    Calls Tryz.prog 137 #[.pointer (some ⟨p, 0, none⟩), .agg #[.int .i64 x, .int .i64 y]] w fun e w' => e = .returned (.tuple #[]) ∧ (∃ no' : Nat, no' ≤ no + 4 ∧ OMap w' ob no' (lookS (fitA gs ts xs te) S x y 4)) ∧ Mk ob (ob + 1) w w' := by
  obtain ⟨i0, hi, hz0, hz1, hz2⟩ := info_parts infoI
  have hml : ts.length = m := hT.len
  have hm160 := hV.tl
  have lob := hO.lt
  have hGH := Lib.hid hG
  have hTH := Lib.hid hT
  have hBH := Lib.hid hB
  have hCH := Lib.hid hC
  have hMH := Lib.hid hM
  have hOH := Lib.hid hO
  have hSH := Lib.hid hS
  have lp := hC.lt
  clear hG hT hB hC hM hO hS
  go_enter Tryz.func137, Tryz.ntmps137
  go_wp2
  go_loopg [8] 4 (fun g c wr => ∃ (d no' : Nat), d + g = 4 ∧ c = .int .i64 (d : Int) ∧ no' ≤ no + d ∧ Hid (OMap wr ob no' (lookS (fitA gs ts xs te) S x y d)) ∧ Hid (Mk ob (ob + 1) w wr) ∧ wr.cell? ⟨w.heap.size, 0, none⟩ = some (.int .i64 x) ∧ wr.cell? ⟨w.heap.size, 1, none⟩ = some (.int .i64 y) ∧ w.heap.size < wr.heap.size)
  case atStart => exact ⟨0, no, by omega, rfl, by omega, Lib.hid (hOH.out.below (by repeat (first | with_reducible exact bl_refl _ | with_reducible assumption | with_reducible refine bl_al ?_ _ | with_reducible refine bl_dr ?_ | with_reducible refine bl_tr ?_ (by assumption) | with_reducible refine bl_set ?_ ?_ _ | with_reducible exact Nat.le_refl _ | omega | (simp only [World.size_alloc, World.size_setCell, World.size_drew] at *; omega) | (dsimp only; omega) | (simp; done) | (simp; omega)))), Lib.hid (Mk.of_below (by repeat (first | with_reducible exact bl_refl _ | with_reducible assumption | with_reducible refine bl_al ?_ _ | with_reducible refine bl_dr ?_ | with_reducible refine bl_tr ?_ (by assumption) | with_reducible refine bl_set ?_ ?_ _ | with_reducible exact Nat.le_refl _ | omega | (simp only [World.size_alloc, World.size_setCell, World.size_drew] at *; omega) | (dsimp only; omega) | (simp; done) | (simp; omega))) (by omega)), by go_simp, by go_simp, by simp⟩
  case round =>
    obtain ⟨d, no', hd, rfl, hno', hOw, hmk, x0, x1, hsz⟩ := hrel
    by_cases hd4 : d < 4
    · have hdI : (d : Int) < 4 := by omega
      have hCw := Lib.hid (hCH.out.mkd hmk.out hpo hto)
      have lpw : p < wr.heap.size := by omega
      have lpw' : p ≤ wr.heap.size := by omega
      have e1 := hCw.out.c1
      have e5 := hCw.out.c5
      obtain ⟨sx, hsx⟩ : ∃ sx, stepX x (d : Nat) = sx := ⟨_, rfl⟩
      obtain ⟨sy, hsy⟩ : ∃ sy, stepY y (d : Nat) = sy := ⟨_, rfl⟩
      have hsx1 : -900 ≤ sx ∧ sx ≤ 900 := by rw [← hsx]; unfold stepX; split <;> (try split) <;> omega
      have hsy1 : -900 ≤ sy ∧ sy ≤ 900 := by rw [← hsy]; unfold stepY; split <;> (try split) <;> omega
      have hsxH := Lib.hid hsx
      have hsyH := Lib.hid hsy
      have hBw : Below w0.heap.size w0 wr := hBH.out.trans (hmk.out.below.mono h0)
      have hGw := Lib.hid (hGH.out.below RGl.stable hBw)
      have hTw := Lib.hid (hTH.out.below RTi.stable hBw)
      clear hsx hsy hBw
      go_wp2_with fail
      refine (step_at d rfl hd4 ⟨by omega, by omega⟩ ⟨by omega, by omega⟩ hsxH.out hsyH.out).mono ?_
      rintro e' w1 ⟨rfl, hb1⟩
      have s1 := hb1.size
      have f1 := (hb1.cell (p := ⟨p, 1, none⟩) lpw).trans e1
      have lp1 : p < w1.heap.size := by omega
      have lp1' : p ≤ w1.heap.size := by omega
      have hb1H := Lib.hid hb1
      clear hb1 e1 e5
      go_wp2
      obtain ⟨wq, rfl⟩ : ∃ wq : World, wq = wr := ⟨_, rfl⟩
      go_loopg [21, 6] m (fun g c v wr => ∃ (j N : Nat) (cs : List Value), j + g = m ∧ c = .int .i64 (j : Int) ∧ N ≤ j ∧ Hid (decide (0 < N) = fitU gs ts xs te sx sy j) ∧ Hid (wr.ownsRow (w1.heap.size + 1) 2 1 v N cs) ∧ Hid (Below wq.heap.size wq wr) ∧ wr.cell? ⟨w1.heap.size, 0, none⟩ = some (.int .i64 sx) ∧ wr.cell? ⟨w1.heap.size, 1, none⟩ = some (.int .i64 sy) ∧ w1.heap.size < wr.heap.size)
      case atStart => exact ⟨0, 0, [], by omega, rfl, by omega, Lib.hid rfl, Lib.hid (World.ownsRow_nil _ _ _ _), Lib.hid (bl_al hb1H.out _), by go_simp, by go_simp, by simp⟩
      case round =>
        obtain ⟨j, N, cs, hj, rfl, hNj, hfu, hrow, hbx, q0, q1, hsx⟩ := hrel
        obtain ⟨A1, c1, rfl⟩ := ownsRow_form hrow.out
        have lpx : p < wr.heap.size := by have := hbx.out.size; omega
        have lpx' : p ≤ wr.heap.size := Nat.le_of_lt lpx
        by_cases hjm : j < m
        · cases hfb : fitB gs ts xs te sx sy j
          all_goals
            have hfbH := Lib.hid hfb
            go_wp2_with fail
            refine (fits_any G T n cg m ct gs ts xs sx sy j _ (hGw.out.below RGl.stable hbx.out) (hTw.out.below RTi.stable hbx.out) (hCw.out.below hbx.out) hMH.out hV (by omega) hsx1 hsy1 hfbH.out).mono ?_
            rintro e' w2 ⟨rfl, hb2⟩
            have hB2 := Lib.hid (hbx.out.trans (hb2.mono hbx.out.size))
            have hrow' := Lib.hid (ownsRow_below hrow.out hb2)
            have z0 := (hb2.cell (p := ⟨w1.heap.size, 0, none⟩) hsx).trans q0
            have z1 := (hb2.cell (p := ⟨w1.heap.size, 1, none⟩) hsx).trans q1
            have s2 := hb2.size
            clear hb2 q0 q1
          · have hs := Lib.hid (show decide (0 < N) = fitU gs ts xs te sx sy (j + 1) by simp only [fitU]; rw [← hfu.out, hfb, Bool.or_false])
            clear hfb
            go_wp2
            go_roundg (m - (j + 1))
            case measure => omega
            case rel => exact ⟨j + 1, N, cs, by omega, by go_num, by omega, hs, hrow', hB2, z0, z1, by omega⟩
          · have hs := Lib.hid (show decide (0 < N + 1) = fitU gs ts xs te sx sy (j + 1) by simp only [fitU]; rw [hfb, Bool.or_true]; simp)
            clear hfb
            go_wp2_with (at_builtin; refine wpList_append_own _ rfl _ _ 51 rfl (w1.heap.size + 1) 2 i0 (.int .i64 0) 1 8 Tryz.underlying51 hi hz0 hz1 hz2 rfl (by decide) _ N cs rfl (hrow'.out.alloc _) ⟨w2.heap.size, 0, none⟩ 1 1 [.int .i64 (j : Int)] rfl rfl (by have := cell_one_new w2 (.int .i64 (j : Int)) 2; simpa using this) (fun x hx => by simp at hx; subst hx; rfl) (by unfold maxLen; omega) (by omega) (by simp; omega) ?_; intro v' w3 hown' hgrow _)
            have hfar : Below (w1.heap.size + 1) w2 w3 := ((Below.refl (w1.heap.size + 1) w2).alloc (by omega) _).grown hgrow (by simp; omega) (fun b' hb' => (hrow'.out.lt b' hb').1)
            have hB3 := Lib.hid (hB2.out.trans (hfar.mono (by omega)))
            have u0 := (hfar.cell (p := ⟨w1.heap.size, 0, none⟩) (by simp)).trans z0
            have u1 := (hfar.cell (p := ⟨w1.heap.size, 1, none⟩) (by simp)).trans z1
            have s3 := hfar.size
            have hownH := Lib.hid hown'
            clear hfar z0 z1 hown' hgrow
            go_wp2
            go_roundg (m - (j + 1))
            case measure => omega
            case rel => exact ⟨j + 1, N + 1, _, by omega, by go_num, by omega, hs, hownH, hB3, u0, u1, by omega⟩
        · obtain rfl : j = m := by omega
          have hFA : fitA gs ts xs te sx sy = decide (0 < N) := by unfold fitA; rw [hml, hfu.out]
          have hFAH := Lib.hid hFA
          have hW1 := Lib.hid (show W64 sx from W64.of (by omega))
          have hW2 := Lib.hid (show W64 sy from W64.of (by omega))
          have hOx := Lib.hid (hOw.out.below hbx.out)
          have e5 := (hCw.out.below hbx.out).c5
          have y0 := (hbx.out.cell (p := ⟨w.heap.size, 0, none⟩) hsz).trans x0
          have y1 := (hbx.out.cell (p := ⟨w.heap.size, 1, none⟩) hsz).trans x1
          have hmx := Lib.hid (hmk.out.trans (Mk.of_below (bl_dr hbx.out) (Nat.le_trans (Nat.le_of_lt lob) hmk.out.size)))
          clear hFA x0 x1
          by_cases hN : N = 0
          · subst hN
            have hno0 := Lib.hid (show lookS (fitA gs ts xs te) S x y d sx sy = false by
              cases hh : lookS (fitA gs ts xs te) S x y d sx sy
              · rfl
              · have h9 : fitA gs ts xs te sx sy = true := lookS_sub hSH.out x y d _ _ hh
                rw [hFAH.out] at h9; simp at h9)
            have hnx := Lib.hid (lookS_no (S := S) (x := x) (y := y) (d := d) (F := fitA gs ts xs te) (by rw [hsxH.out, hsyH.out, hFAH.out]; rfl))
            go_wp2
            refine wp_region_ord [(0, .q), (1, .q), (2, .q), (3, .q), (4, .q), (5, .b)] (by kernel_rfl) (by kernel_rfl) ?_
            simp only [pick, List.filterMap_cons, List.filterMap_nil, List.getElem?_toArray, List.getElem?_cons_zero, List.getElem?_cons_succ, Option.map_some]
            repeat (first | ((with_reducible refine wpD_p (fun K hK => ?_)); go_simp; refine hK _ ?_; clear hK K) | ((with_reducible refine wpD_q (fun K hK => ?_)); go_simp; (first | refine hK _ ?_ | (go_bits; refine hK _ ?_) | (go_bits; go_simp; refine hK _ ?_)); clear hK K))
            refine wpD_del_omap rfl _ _ rfl ob no' _ (by go_simp) (hOx.out.below (bl_dr (bl_refl _))) sx sy hW1.out hW2.out hno0.out (by go_simp) ?_
            intro w3 hO3 hm3
            with_reducible refine wpD_nil ?_
            have v0 := (World.cell?_of_block (a := ⟨w.heap.size, 0, none⟩) (hm3.keep w.heap.size (by omega) (by simp; omega))).trans (show _ = some (Value.int .i64 x) by go_simp)
            have v1 := (World.cell?_of_block (a := ⟨w.heap.size, 1, none⟩) (hm3.keep w.heap.size (by omega) (by simp; omega))).trans (show _ = some (Value.int .i64 y) by go_simp)
            have s3 := hm3.size
            have hO3H := Lib.hid hO3
            have hm3H := Lib.hid (hmx.out.trans hm3)
            clear hO3 hm3
            go_wp2
            go_roundg (4 - (d + 1))
            case measure => omega
            case rel => exact ⟨d + 1, no', by omega, by go_num, by omega, Lib.hid (by rw [← hnx.out]; exact hO3H.out), hm3H, v0, v1, by simp at s3; omega⟩
          · have hNI : (0 : Int) < (N : Int) := by omega
            have hN0 : 0 < N := by omega
            have hnx := Lib.hid (lookS_yes (S := S) (x := x) (y := y) (d := d) (F := fitA gs ts xs te) (by rw [hsxH.out, hsyH.out, hFAH.out]; simpa using hN0))
            go_wp2
            refine wp_region_ord [(0, .q), (1, .q), (2, .q), (3, .q), (4, .q), (5, .q), (6, .b)] (by kernel_rfl) (by kernel_rfl) ?_
            simp only [pick, List.filterMap_cons, List.filterMap_nil, List.getElem?_toArray, List.getElem?_cons_zero, List.getElem?_cons_succ, Option.map_some]
            repeat (first | ((with_reducible refine wpD_p (fun K hK => ?_)); go_simp; refine hK _ ?_; clear hK K) | ((with_reducible refine wpD_q (fun K hK => ?_)); go_simp; (first | refine hK _ ?_ | (go_bits; refine hK _ ?_) | (go_bits; go_simp; refine hK _ ?_)); clear hK K))
            refine wpD_put_omap rfl _ _ _ rfl ob no' _ (by go_simp) (hOx.out.below (bl_dr (bl_refl _))) sx sy hW1.out hW2.out A1 N c1 (by omega) (by omega) (by unfold maxLen; omega) (by go_simp) (by go_simp) ?_
            intro w3 hO3 hm3
            with_reducible refine wpD_nil ?_
            have v0 := (World.cell?_of_block (a := ⟨w.heap.size, 0, none⟩) (hm3.keep w.heap.size (by omega) (by simp; omega))).trans (show _ = some (Value.int .i64 x) by go_simp)
            have v1 := (World.cell?_of_block (a := ⟨w.heap.size, 1, none⟩) (hm3.keep w.heap.size (by omega) (by simp; omega))).trans (show _ = some (Value.int .i64 y) by go_simp)
            have s3 := hm3.size
            have hO3H := Lib.hid hO3
            have hm3H := Lib.hid (hmx.out.trans hm3)
            clear hO3 hm3
            go_wp2
            go_roundg (4 - (d + 1))
            case measure => omega
            case rel => exact ⟨d + 1, no' + 1, by omega, by go_num, by omega, Lib.hid (by rw [← hnx.out, hsxH.out, hsyH.out]; exact hO3H.out), hm3H, v0, v1, by simp at s3; omega⟩
    · obtain rfl : d = 4 := by omega
      go_wp2
      go_end0
      exact ⟨rfl, ⟨no', by omega, hOw.out⟩, hmk.out⟩
end Go.Proofs.YtcpbppblahpjbaaGreat
/- Walk: the free points next to the tiles of an assembly, the reference. -/



namespace Go.Proofs.YtcpbppblahpjbaaGreat
open Go.RowKit Go.Shelf
set_option linter.unusedSimpArgs false
set_option linter.unusedVariables false
attribute [local go_sem] BelowBy.cell BelowBy.cell_drew stillUpon givesUpon BelowBy.cell_drew2 BelowBy.cell_drew3

/-- the free valid points next to a tile, put to a list -/
noncomputable def nearD (ys : List Pl) (x y : Int) (L : List Pt) : Nat → List Pt
  | 0 => L
  | d + 1 => if validPt (stepX x (d : Nat)) (stepY y (d : Nat)) = true ∧ placeI ys (stepX x (d : Nat)) (stepY y (d : Nat)) < 0 then putP (nearD ys x y L d) (stepX x (d : Nat)) (stepY y (d : Nat)) else nearD ys x y L d
noncomputable def nearK (ys : List Pl) : Nat → List Pt
  | 0 => []
  | k + 1 => match ys[k]? with
    | some e => nearD ys e.x e.y (nearK ys k) 4
    | none => nearK ys k
theorem nearD_yes {ys : List Pl} {x y sx sy : Int} {L : List Pt} {d : Nat} (hx : stepX x (d : Nat) = sx) (hy : stepY y (d : Nat) = sy) (h1 : validPt sx sy = true) (h2 : placeI ys sx sy < 0) : nearD ys x y L (d + 1) = putP (nearD ys x y L d) sx sy := by
  subst hx hy; simp only [nearD]; rw [if_pos ⟨h1, h2⟩]
theorem nearD_no1 {ys : List Pl} {x y sx sy : Int} {L : List Pt} {d : Nat} (hx : stepX x (d : Nat) = sx) (hy : stepY y (d : Nat) = sy) (h1 : validPt sx sy = false) : nearD ys x y L (d + 1) = nearD ys x y L d := by
  subst hx hy; simp only [nearD]; rw [if_neg (fun h => by rw [h1] at h; cases h.1)]
theorem nearD_no2 {ys : List Pl} {x y sx sy : Int} {L : List Pt} {d : Nat} (hx : stepX x (d : Nat) = sx) (hy : stepY y (d : Nat) = sy) (h2 : ¬ placeI ys sx sy < 0) : nearD ys x y L (d + 1) = nearD ys x y L d := by
  subst hx hy; simp only [nearD]; rw [if_neg (fun h => h2 h.2)]
theorem nearD_len (ys : List Pl) (x y : Int) (L : List Pt) : ∀ d, (nearD ys x y L d).length ≤ L.length + d
  | 0 => Nat.le_refl _
  | d + 1 => by
    have := nearD_len ys x y L d
    simp only [nearD]
    split
    · have := putP_len (nearD ys x y L d) (stepX x (d : Nat)) (stepY y (d : Nat)); omega
    · omega
theorem nearK_len (ys : List Pl) : ∀ k, (nearK ys k).length ≤ 4 * k
  | 0 => Nat.le_refl _
  | k + 1 => by
    have := nearK_len ys k
    simp only [nearK]
    split
    · have := nearD_len ys (by assumption : Pl).x (by assumption : Pl).y (nearK ys k) 4; omega
    · omega
theorem nearK_succ {ys : List Pl} {k : Nat} {e : Pl} (h : ys[k]? = some e) : nearK ys (k + 1) = nearD ys e.x e.y (nearK ys k) 4 := by
  simp only [nearK, h]
theorem nearD_mem {ys : List Pl} {x y : Int} {L : List Pt} {p : Pt} : ∀ d, p ∈ nearD ys x y L d ↔ p ∈ L ∨ ∃ d' : Nat, d' < d ∧ p = ⟨stepX x d', stepY y d'⟩ ∧ validPt p.x p.y = true ∧ placeI ys p.x p.y < 0
  | 0 => by simp [nearD]
  | d + 1 => by
    simp only [nearD]
    split
    · rename_i h
      rw [putP_mem, nearD_mem d]
      constructor
      · rintro ((h1 | ⟨d', h1, h2, h3⟩) | rfl)
        · exact Or.inl h1
        · exact Or.inr ⟨d', by omega, h2, h3⟩
        · exact Or.inr ⟨d, by omega, rfl, h⟩
      · rintro (h1 | ⟨d', h1, h2, h3⟩)
        · exact Or.inl (Or.inl h1)
        · rcases Nat.lt_succ_iff_lt_or_eq.1 h1 with h1 | rfl
          · exact Or.inl (Or.inr ⟨d', h1, h2, h3⟩)
          · exact Or.inr h2
    · rename_i h
      rw [nearD_mem d]
      constructor
      · rintro (h1 | ⟨d', h1, h2, h3⟩)
        · exact Or.inl h1
        · exact Or.inr ⟨d', by omega, h2, h3⟩
      · rintro (h1 | ⟨d', h1, h2, h3⟩)
        · exact Or.inl h1
        · rcases Nat.lt_succ_iff_lt_or_eq.1 h1 with h1 | rfl
          · exact Or.inr ⟨d', h1, h2, h3⟩
          · subst h2; exact (h h3).elim
theorem nearK_mem {ys : List Pl} {p : Pt} : ∀ k, p ∈ nearK ys k ↔ ∃ (a : Nat) (e : Pl) (d : Nat), a < k ∧ ys[a]? = some e ∧ d < 4 ∧ p = ⟨stepX e.x d, stepY e.y d⟩ ∧ validPt p.x p.y = true ∧ placeI ys p.x p.y < 0
  | 0 => by simp [nearK]
  | k + 1 => by
    cases hk : ys[k]? with
    | none =>
      simp only [nearK, hk]
      rw [nearK_mem k]
      constructor
      · rintro ⟨a, e, d, h1, h2⟩; exact ⟨a, e, d, by omega, h2⟩
      · rintro ⟨a, e, d, h1, h2, h3⟩
        rcases Nat.lt_succ_iff_lt_or_eq.1 h1 with h1 | rfl
        · exact ⟨a, e, d, h1, h2, h3⟩
        · rw [hk] at h2; cases h2
    | some e =>
      simp only [nearK, hk]
      rw [nearD_mem, nearK_mem k]
      constructor
      · rintro (⟨a, e', d, h1, h2⟩ | ⟨d, h1, h2⟩)
        · exact ⟨a, e', d, by omega, h2⟩
        · exact ⟨k, e, d, by omega, hk, h1, h2⟩
      · rintro ⟨a, e', d, h1, h2, h3⟩
        rcases Nat.lt_succ_iff_lt_or_eq.1 h1 with h1 | rfl
        · exact Or.inl ⟨a, e', d, h1, h2, h3⟩
        · rw [hk] at h2; obtain rfl := Option.some.inj h2; exact Or.inr ⟨d, h3⟩
theorem sl01Point_at {x y : Int} {w : World} {b : Bool} (h : validPt x y = b) :
    Calls Tryz.prog 138 #[.agg #[.int .i64 x, .int .i64 y]] w fun e w' => e = .returned (.bool b) ∧ Below w.heap.size w w' := h ▸ l01Point_any x y w
set_option maxRecDepth 100000 in
set_option maxHeartbeats 4000000 in
theorem l08Near_any {pa oa : Nat} {gs : List Gl} {ts : List Ti} {ys : List Pl} {w : World} (h2 : AsmAt w pa oa ys) (hV : Valid gs ts ys) :
    Calls Tryz.prog 135 #[.pointer (some ⟨pa, oa, none⟩)] w fun e w' => ∃ v, e = .returned v ∧ w'.ownsRow w.heap.size 80 2 v (nearK ys ys.length).length (ptCells (nearK ys ys.length)) ∧ Below w.heap.size w w' := by
  
  have hA := Lib.hid h2
  have la := h2.lt
  obtain ⟨_, C, k, cc, cq, hR⟩ := id h2
  have hl := hR.len
  have hk5 : k ≤ 500 := by rw [← hl]; exact hV.len
  rw [hl]
  clear h2 hR hl
  go_enter Tryz.func135, Tryz.ntmps135
  go_wp2
  go_loopg [4, 3] k (fun gk i v wr => ∃ j : Nat, j + gk = k ∧ i = .int .i64 (j : Int) ∧ Hid (wr.ownsRow w.heap.size 80 2 v (nearK ys j).length (ptCells (nearK ys j))) ∧ Hid (Below w.heap.size w wr))
  case atStart => exact ⟨0, by omega, rfl, Lib.hid (by have := World.ownsRow_lit (base := w.heap.size) (e := 80) (size := 2) w #[] 0 (Nat.le_refl _) (by decide) rfl; simpa [nearK, ptCells] using this), Lib.hid (bl_al (bl_refl _) _)⟩
  case round =>
    obtain ⟨j, hj, rfl, hrow, hbw⟩ := hrel
    have hszw := hbw.out.size
    have cqw := (hbw.out.cell (p := ⟨pa, oa, none⟩) la).trans cq
    have law : pa < wr.heap.size := by omega
    have hL0 := nearK_len ys j
    by_cases hjk : j < k
    · obtain ⟨e, he⟩ : ∃ e, ys[j]? = some e := by
        obtain ⟨_, C', k', cc', cq', hR⟩ := hA.out.below hbw.out
        rw [cqw] at cq'
        obtain ⟨rfl, rfl, rfl⟩ : C = C' ∧ k = k' ∧ cc = cc' := by injection cq' with h; injection h with a b c; exact ⟨a, b, c⟩
        exact hR.get hjk
      have hpt := hV.pt j e he
      have heH := Lib.hid he
      obtain ⟨L0, hL0e⟩ : ∃ L0, nearK ys j = L0 := ⟨_, rfl⟩
      have hsx := Lib.hid (show nearK ys (j + 1) = nearD ys e.x e.y L0 4 by rw [← hL0e]; exact nearK_succ he)
      rw [hL0e] at hrow hL0
      clear he hL0e
      go_wp2
      obtain ⟨wq, rfl⟩ : ∃ wq : World, wq = wr := ⟨_, rfl⟩
      go_loopg [5, 3] 4 (fun gd i v wr => ∃ d : Nat, d + gd = 4 ∧ i = .int .i64 (d : Int) ∧ Hid (wr.ownsRow w.heap.size 80 2 v (nearD ys e.x e.y L0 d).length (ptCells (nearD ys e.x e.y L0 d))) ∧ Hid (Below w.heap.size w wr))
      case atStart => exact ⟨0, by omega, rfl, hrow, hbw⟩
      case round =>
        obtain ⟨d, hd, rfl, hrowd, hbx⟩ := hrel
        have hszx := hbx.out.size
        have cqx := (hbx.out.cell (p := ⟨pa, oa, none⟩) la).trans cq
        have lax : pa < wr.heap.size := by omega
        have hLd := nearD_len ys e.x e.y L0 d
        by_cases hd4 : d < 4
        · have hdI : (d : Int) < 4 := by omega
          obtain ⟨_, C', k', cc', cq', hR⟩ := hA.out.below hbx.out
          rw [cqx] at cq'
          obtain ⟨rfl, rfl, rfl⟩ : C = C' ∧ k = k' ∧ cc = cc' := by injection cq' with h; injection h with a b c; exact ⟨a, b, c⟩
          obtain ⟨b, ob, hCe, hb, hc⟩ := hR.ptr (by omega)
          obtain ⟨d0, d1, d2⟩ := hc j e heH.out
          subst hCe
          have hAx := Lib.hid (hA.out.below hbx.out)
          obtain ⟨sx, hsxe⟩ : ∃ sx, stepX e.x (d : Nat) = sx := ⟨_, rfl⟩
          obtain ⟨sy, hsye⟩ : ∃ sy, stepY e.y (d : Nat) = sy := ⟨_, rfl⟩
          obtain ⟨r, hr⟩ : ∃ r, placeI ys sx sy = r := ⟨_, rfl⟩
          have hrH := Lib.hid hr
          obtain ⟨L, hLe⟩ : ∃ L, nearD ys e.x e.y L0 d = L := ⟨_, rfl⟩
          rw [hLe] at hrowd hLd
          have hLeH := Lib.hid hLe
          have hsxH := Lib.hid hsxe
          have hsyH := Lib.hid hsye
          clear hc hR cq' hr hLe hsxe hsye
          cases hv : validPt sx sy
          · have hvH := Lib.hid hv
            have hs := Lib.hid (show nearD ys e.x e.y L0 (d + 1) = L by rw [← hLeH.out]; exact nearD_no1 hsxH.out hsyH.out hv)
            clear hv
            go_wp2_with (first
              | (go_at_call 178; refine (l01Step_any _ _ _ _ ⟨by omega, by omega⟩ ⟨by omega, by omega⟩ ⟨by omega, by omega⟩).mono ?_; rw [hsxH.out, hsyH.out]; rintro e' w1 ⟨rfl, hb1⟩)
              | (go_at_call 138; refine (sl01Point_at hvH.out).mono ?_; rintro e w2 ⟨rfl, hb2⟩; obtain ⟨chb2, fhb2, shb2, thb2⟩ := bcell hb2))
            have hb2' : Below wr.heap.size wr w2 := by repeat (first | with_reducible exact bl_refl _ | with_reducible assumption | with_reducible refine bl_al ?_ _ | with_reducible refine bl_dr ?_ | with_reducible refine bl_tr ?_ (by assumption) | with_reducible refine bl_set ?_ ?_ _ | with_reducible exact Nat.le_refl _ | omega | (simp only [World.size_alloc, World.size_setCell, World.size_drew] at *; omega) | (dsimp only; omega) | (simp; done) | (simp; omega))
            go_roundg (4 - (d + 1))
            case measure => omega
            case rel => exact ⟨d + 1, by omega, by go_num, Lib.hid (by rw [hs.out]; exact ownsRow_below hrowd.out hb2'), Lib.hid (hbx.out.trans (hb2'.mono hszx))⟩
          · have hvH := Lib.hid hv
            by_cases hr0 : r < 0
            · have hs := Lib.hid (show nearD ys e.x e.y L0 (d + 1) = putP L sx sy by rw [← hLeH.out]; exact nearD_yes hsxH.out hsyH.out hv (by rw [hrH.out]; exact hr0))
              clear hv
              go_wp2_with (first
                | (go_at_call 178; refine (l01Step_any _ _ _ _ ⟨by omega, by omega⟩ ⟨by omega, by omega⟩ ⟨by omega, by omega⟩).mono ?_; rw [hsxH.out, hsyH.out]; rintro e' w1 ⟨rfl, hb1⟩)
                | (go_at_call 138; refine (sl01Point_at hvH.out).mono ?_; rintro e w2 ⟨rfl, hb2⟩; obtain ⟨chb2, fhb2, shb2, thb2⟩ := bcell hb2)
                | (go_at_call 140; refine (l03Index_at (hAx.out.below (by repeat (first | with_reducible exact bl_refl _ | with_reducible assumption | with_reducible refine bl_al ?_ _ | with_reducible refine bl_dr ?_ | with_reducible refine bl_tr ?_ (by assumption) | with_reducible refine bl_set ?_ ?_ _ | with_reducible exact Nat.le_refl _ | omega | (simp only [World.size_alloc, World.size_setCell, World.size_drew] at *; omega) | (dsimp only; omega) | (simp; done) | (simp; omega)))) hV hrH.out).mono ?_; rintro e w3 ⟨rfl, hb3⟩; obtain ⟨chb3, fhb3, shb3, thb3⟩ := bcell hb3))
              have hb3' : Below wr.heap.size wr w3 := by repeat (first | with_reducible exact bl_refl _ | with_reducible assumption | with_reducible refine bl_al ?_ _ | with_reducible refine bl_dr ?_ | with_reducible refine bl_tr ?_ (by assumption) | with_reducible refine bl_set ?_ ?_ _ | with_reducible exact Nat.le_refl _ | omega | (simp only [World.size_alloc, World.size_setCell, World.size_drew] at *; omega) | (dsimp only; omega) | (simp; done) | (simp; omega))
              have hsz3 := hb3'.size
              refine (l08PutPoint_any (base := w.heap.size) (L := L) (x := sx) (y := sy) (ownsRow_below hrowd.out hb3') (by omega) (by omega)).mono ?_
              rintro e' w4 ⟨v', rfl, hrow', hb4⟩
              have hB4 := Lib.hid ((hbx.out.trans (hb3'.mono hszx)).trans hb4)
              have hrowH := Lib.hid hrow'
              clear hrow' hb4
              go_wp2
              go_roundg (4 - (d + 1))
              case measure => omega
              case rel => exact ⟨d + 1, by omega, by go_num, Lib.hid (by rw [hs.out]; exact hrowH.out), hB4⟩
            · have hs := Lib.hid (show nearD ys e.x e.y L0 (d + 1) = L by rw [← hLeH.out]; exact nearD_no2 hsxH.out hsyH.out (by rw [hrH.out]; exact hr0))
              clear hv
              go_wp2_with (first
                | (go_at_call 178; refine (l01Step_any _ _ _ _ ⟨by omega, by omega⟩ ⟨by omega, by omega⟩ ⟨by omega, by omega⟩).mono ?_; rw [hsxH.out, hsyH.out]; rintro e' w1 ⟨rfl, hb1⟩)
                | (go_at_call 138; refine (sl01Point_at hvH.out).mono ?_; rintro e w2 ⟨rfl, hb2⟩; obtain ⟨chb2, fhb2, shb2, thb2⟩ := bcell hb2)
                | (go_at_call 140; refine (l03Index_at (hAx.out.below (by repeat (first | with_reducible exact bl_refl _ | with_reducible assumption | with_reducible refine bl_al ?_ _ | with_reducible refine bl_dr ?_ | with_reducible refine bl_tr ?_ (by assumption) | with_reducible refine bl_set ?_ ?_ _ | with_reducible exact Nat.le_refl _ | omega | (simp only [World.size_alloc, World.size_setCell, World.size_drew] at *; omega) | (dsimp only; omega) | (simp; done) | (simp; omega)))) hV hrH.out).mono ?_; rintro e w3 ⟨rfl, hb3⟩; obtain ⟨chb3, fhb3, shb3, thb3⟩ := bcell hb3))
              have hb3' : Below wr.heap.size wr w3 := by repeat (first | with_reducible exact bl_refl _ | with_reducible assumption | with_reducible refine bl_al ?_ _ | with_reducible refine bl_dr ?_ | with_reducible refine bl_tr ?_ (by assumption) | with_reducible refine bl_set ?_ ?_ _ | with_reducible exact Nat.le_refl _ | omega | (simp only [World.size_alloc, World.size_setCell, World.size_drew] at *; omega) | (dsimp only; omega) | (simp; done) | (simp; omega))
              go_roundg (4 - (d + 1))
              case measure => omega
              case rel => exact ⟨d + 1, by omega, by go_num, Lib.hid (by rw [hs.out]; exact ownsRow_below hrowd.out hb3'), Lib.hid (hbx.out.trans (hb3'.mono hszx))⟩
        · obtain rfl : d = 4 := by omega
          go_wp2
          go_roundg (k - (j + 1))
          case measure => omega
          case rel => exact ⟨j + 1, by omega, by go_num, Lib.hid (by rw [hsx.out]; exact hrowd.out), hbx⟩
    · obtain rfl : j = k := by omega
      go_wp2
      go_ret
      exact ⟨_, rfl, hrow.out, hbw.out⟩
end Go.Proofs.YtcpbppblahpjbaaGreat
/- Walk: the tiles that bind at a point, the reference. -/



namespace Go.Proofs.YtcpbppblahpjbaaGreat
open Go.RowKit Go.Shelf
set_option linter.unusedSimpArgs false
set_option linter.unusedVariables false
attribute [local go_sem] BelowBy.cell BelowBy.cell_drew stillUpon givesUpon BelowBy.cell_drew2 BelowBy.cell_drew3

/-- the glue that stands before the side of a tile at a point -/
noncomputable def glueAt (ts : List Ti) (ys : List Pl) (x y : Int) (d : Nat) : Int := if atI ys (stepX x (d : Nat)) (stepY y (d : Nat)) < 0 then 0 else sideI ts (atI ys (stepX x (d : Nat)) (stepY y (d : Nat))).toNat (oppN d)
theorem bindN_glue {gs : List Gl} {ts : List Ti} {ys : List Pl} {x y G S : Int} {t k : Nat} (hS : bindN gs ts ys x y t k = S) (hG : glueAt ts ys x y k = G) : bindN gs ts ys x y t (k + 1) = S + (if sideI ts t k = G then strI gs G else 0) := by
  simp only [bindN]
  rw [hS, ← hG]
  unfold glueAt
  by_cases h : atI ys (stepX x (k : Nat)) (stepY y (k : Nat)) < 0
  · rw [if_neg (by omega), if_pos h]
    split
    · rw [strI_zero]
    · rfl
  · rw [if_pos (by omega), if_neg h]
    unfold bondI
    split
    · rename_i hh; rw [hh]
    · rfl
noncomputable def gluesV (ts : List Ti) (ys : List Pl) (x y : Int) : Nat → List Value
  | 0 => []
  | k + 1 => gluesV ts ys x y k ++ [.int .i64 (glueAt ts ys x y k)]
theorem gluesV_len (ts : List Ti) (ys : List Pl) (x y : Int) : ∀ k, (gluesV ts ys x y k).length = k
  | 0 => rfl
  | k + 1 => by simp [gluesV, gluesV_len ts ys x y k]
theorem gluesV_get {ts : List Ti} {ys : List Pl} {x y : Int} : ∀ (k d : Nat), d < k → (gluesV ts ys x y k)[d]? = some (.int .i64 (glueAt ts ys x y d))
  | 0, d, h => by omega
  | k + 1, d, h => by
    simp only [gluesV]
    rcases Nat.lt_succ_iff_lt_or_eq.1 h with h | rfl
    · rw [List.getElem?_append_left (by rw [gluesV_len]; exact h)]; exact gluesV_get k d h
    · rw [List.getElem?_append_right (by rw [gluesV_len]; omega), gluesV_len]; simp
/-- the first tiles that bind strongly enough -/
noncomputable def atL (gs : List Gl) (ts : List Ti) (ys : List Pl) (x y t : Int) : Nat → List Int
  | 0 => []
  | j + 1 => if t ≤ bindN gs ts ys x y j 4 then atL gs ts ys x y t j ++ [(j : Int)] else atL gs ts ys x y t j
theorem atL_yes {gs : List Gl} {ts : List Ti} {ys : List Pl} {x y t r : Int} {j : Nat} (hr : bindN gs ts ys x y j 4 = r) (h : t ≤ r) : atL gs ts ys x y t (j + 1) = atL gs ts ys x y t j ++ [(j : Int)] := by
  simp only [atL]; rw [hr, if_pos h]
theorem atL_no {gs : List Gl} {ts : List Ti} {ys : List Pl} {x y t r : Int} {j : Nat} (hr : bindN gs ts ys x y j 4 = r) (h : ¬ t ≤ r) : atL gs ts ys x y t (j + 1) = atL gs ts ys x y t j := by
  simp only [atL]; rw [hr, if_neg h]
theorem atL_len (gs : List Gl) (ts : List Ti) (ys : List Pl) (x y t : Int) : ∀ j, (atL gs ts ys x y t j).length ≤ j
  | 0 => Nat.le_refl _
  | j + 1 => by
    have := atL_len gs ts ys x y t j
    simp only [atL]
    split
    · simp; omega
    · omega
theorem glueAt_nat {gs : List Gl} {ts : List Ti} {ys : List Pl} (hV : Valid gs ts ys) (x y : Int) (d : Nat) (hd : d < 4) : ∃ g : Nat, glueAt ts ys x y d = g ∧ g ≤ gs.length := by
  unfold glueAt
  split
  · exact ⟨0, rfl, by omega⟩
  · rename_i h
    rcases atI_cases hV (stepX x (d : Nat)) (stepY y (d : Nat)) with ⟨_, hat⟩ | ⟨i, t2, e, _, _, _, ht2, hat⟩
    · rw [hat] at h; omega
    · obtain ⟨ti, hti⟩ : ∃ ti, ts[t2]? = some ti := ⟨_, List.getElem?_eq_getElem ht2⟩
      have h4 := hV.four t2 ti hti
      obtain ⟨v, hv⟩ : ∃ v, ti.sides[oppN d]? = some v := ⟨_, List.getElem?_eq_getElem (by unfold oppN; split <;> omega)⟩
      obtain ⟨g, hg, hgl⟩ := hV.side t2 ti _ v hti hv
      refine ⟨g, ?_, hgl⟩
      rw [hat, show ((t2 : Nat) : Int).toNat = t2 by omega, sideI_eq hti hv, hg]
set_option maxRecDepth 100000 in
set_option maxHeartbeats 8000000 in
theorem l08At_any {p op pa oa : Nat} {gs : List Gl} {ts : List Ti} {ys : List Pl} {x y t : Int} {w : World} (hs : SetAt w p op gs ts) (h2 : AsmAt w pa oa ys) (hV : Valid gs ts ys) (hx : -900 ≤ x ∧ x ≤ 900) (hy : -900 ≤ y ∧ y ≤ 900) :
    Calls Tryz.prog 136 #[.pointer (some ⟨p, op, none⟩), .pointer (some ⟨pa, oa, none⟩), .agg #[.int .i64 x, .int .i64 y], .int .i64 t] w fun e w' => ∃ v, e = .returned v ∧ w'.ownsRow w.heap.size 2 1 v (atL gs ts ys x y t ts.length).length ((atL gs ts ys x y t ts.length).map (Value.int .i64)) ∧ Below w.heap.size w w' := by
  obtain ⟨i0, hi, hz0, hz1, hz2⟩ := info_parts infoI
  
  have hS := Lib.hid hs
  have hA := Lib.hid h2
  have lp := hs.lt
  obtain ⟨T, m, ct, cT, hT⟩ := hs.ti
  have hlm := hT.len
  have htl := hV.tl
  have hTH := Lib.hid hT
  rw [hlm] at htl ⊢
  clear hs h2 hT
  go_enter Tryz.func136, Tryz.ntmps136
  go_wp2
  go_loopg [10, 9] 4 (fun g i v wr => ∃ d : Nat, d + g = 4 ∧ i = .int .i64 (d : Int) ∧ Hid (wr.ownsRow (w.heap.size + 1) 2 1 v d (gluesV ts ys x y d)) ∧ Hid (Below w.heap.size w wr) ∧ wr.cell? ⟨w.heap.size, 0, none⟩ = some (.int .i64 x) ∧ wr.cell? ⟨w.heap.size, 1, none⟩ = some (.int .i64 y) ∧ w.heap.size < wr.heap.size)
  case atStart =>
    refine ⟨0, by omega, rfl, Lib.hid ?_, Lib.hid (by repeat (first | with_reducible exact bl_refl _ | with_reducible assumption | with_reducible refine bl_al ?_ _ | with_reducible refine bl_dr ?_ | with_reducible refine bl_tr ?_ (by assumption) | with_reducible refine bl_set ?_ ?_ _ | with_reducible exact Nat.le_refl _ | omega | (simp only [World.size_alloc, World.size_setCell, World.size_drew] at *; omega) | (dsimp only; omega) | (simp; done) | (simp; omega))), by go_simp, by go_simp, by simp only [World.size_alloc]; omega⟩
    have := World.ownsRow_lit (base := w.heap.size + 1) (e := 2) (size := 1) (w.alloc (.cells #[.int .i64 x, .int .i64 y] 80)) #[] 0 (by simp) (by decide) rfl
    simpa [gluesV] using this
  case round =>
    obtain ⟨d, hd, rfl, hrow, hbw, x0, x1, hsz⟩ := hrel
    obtain ⟨A1, c1, rfl⟩ := ownsRow_form hrow.out
    have hszw := hbw.out.size
    have lpw : p < wr.heap.size := by omega
    by_cases hd4 : d < 4
    · have hdI : (d : Int) < 4 := by omega
      have hAw := Lib.hid (hA.out.below hbw.out)
      obtain ⟨sx, hsxe⟩ : ∃ sx, stepX x (d : Nat) = sx := ⟨_, rfl⟩
      obtain ⟨sy, hsye⟩ : ∃ sy, stepY y (d : Nat) = sy := ⟨_, rfl⟩
      have hsxH := Lib.hid hsxe
      have hsyH := Lib.hid hsye
      have hgn := Lib.hid (glueAt_nat hV x y d hd4)
      rcases atI_cases hV sx sy with ⟨_, hat⟩ | ⟨i, t2, e, _, _, _, ht2, hat⟩
      · have hatH := Lib.hid hat
        have hg := Lib.hid (show gluesV ts ys x y (d + 1) = gluesV ts ys x y d ++ [.int .i64 0] by
          simp only [gluesV]; unfold glueAt; rw [hsxe, hsye, hat, if_pos (by decide)])
        clear hat hsxe hsye
        go_wp2_with (first
          | (go_at_call 178; refine (l01Step_any _ _ _ _ ⟨by omega, by omega⟩ ⟨by omega, by omega⟩ ⟨by omega, by omega⟩).mono ?_; rw [hsxH.out, hsyH.out]; rintro e' w1 ⟨rfl, hb1⟩)
          | (go_at_call 175; refine (l03At_any _ gs ts ys _ _ _ _ (hAw.out.below (by repeat (first | with_reducible exact bl_refl _ | with_reducible assumption | with_reducible refine bl_al ?_ _ | with_reducible refine bl_dr ?_ | with_reducible refine bl_tr ?_ (by assumption) | with_reducible refine bl_set ?_ ?_ _ | with_reducible exact Nat.le_refl _ | omega | (simp only [World.size_alloc, World.size_setCell, World.size_drew] at *; omega) | (dsimp only; omega) | (simp; done) | (simp; omega)))) hV hatH.out).mono ?_; rintro e' w2 ⟨rfl, hb2⟩; have hb2' := Lib.hid (show Below wr.heap.size wr w2 by repeat (first | with_reducible exact bl_refl _ | with_reducible assumption | with_reducible refine bl_al ?_ _ | with_reducible refine bl_dr ?_ | with_reducible refine bl_tr ?_ (by assumption) | with_reducible refine bl_set ?_ ?_ _ | with_reducible exact Nat.le_refl _ | omega | (simp only [World.size_alloc, World.size_setCell, World.size_drew] at *; omega) | (dsimp only; omega) | (simp; done) | (simp; omega))); have hrow2 := Lib.hid (ownsRow_below hrow.out hb2'.out); have s2 := hb2'.out.size)
          | (at_builtin; refine wpList_append_own _ rfl _ _ 51 rfl (w.heap.size + 1) 2 i0 (.int .i64 0) 1 8 Tryz.underlying51 hi hz0 hz1 hz2 rfl (by decide) _ d _ rfl (hrow2.out.alloc _) ⟨w2.heap.size, 0, none⟩ 1 1 [.int .i64 0] rfl rfl (by have := cell_one_new w2 (.int .i64 0) 2; simpa using this) (fun x hx => by simp at hx; subst hx; rfl) (by unfold maxLen; omega) (by omega) (by simp; omega) ?_; intro v' w4 hown' hgrow _))
        have hfar : Below (w.heap.size + 1) w2 w4 := below_app (by omega) (fun g e => (hrow2.out.lt g e).1) hgrow
        have hB4 := Lib.hid ((hbw.out.trans (hb2'.out.mono hszw)).trans (hfar.mono (by omega)))
        have u0 := (hfar.cell (p := ⟨w.heap.size, 0, none⟩) (by simp)).trans ((hb2'.out.cell (p := ⟨w.heap.size, 0, none⟩) hsz).trans x0)
        have u1 := (hfar.cell (p := ⟨w.heap.size, 1, none⟩) (by simp)).trans ((hb2'.out.cell (p := ⟨w.heap.size, 1, none⟩) hsz).trans x1)
        have s4 := hfar.size
        have hownH := Lib.hid hown'
        clear hfar hown' hgrow x0 x1
        go_wp2
        go_roundg (4 - (d + 1))
        case measure => omega
        case rel => exact ⟨d + 1, by omega, by go_num, Lib.hid (by rw [hg.out]; exact hownH.out), hB4, u0, u1, by omega⟩
      · have hatH := Lib.hid hat
        obtain ⟨G, hG⟩ : ∃ G, glueAt ts ys x y d = G := ⟨_, rfl⟩
        have hg := Lib.hid (show gluesV ts ys x y (d + 1) = gluesV ts ys x y d ++ [.int .i64 G] by
          simp only [gluesV]; rw [hG])
        have hGH := Lib.hid (show sideI ts t2 (oppN d) = G by
          rw [← hG]; unfold glueAt; rw [hsxe, hsye, hat, if_neg (by omega)]; rfl)
        have ht20 : (0 : Int) ≤ (t2 : Int) := by omega
        clear hat hsxe hsye hG
        go_wp2_with (first
          | (go_at_call 178; refine (l01Step_any _ _ _ _ ⟨by omega, by omega⟩ ⟨by omega, by omega⟩ ⟨by omega, by omega⟩).mono ?_; rw [hsxH.out, hsyH.out]; rintro e' w1 ⟨rfl, hb1⟩)
          | (go_at_call 175; refine (l03At_any _ gs ts ys _ _ _ _ (hAw.out.below (by repeat (first | with_reducible exact bl_refl _ | with_reducible assumption | with_reducible refine bl_al ?_ _ | with_reducible refine bl_dr ?_ | with_reducible refine bl_tr ?_ (by assumption) | with_reducible refine bl_set ?_ ?_ _ | with_reducible exact Nat.le_refl _ | omega | (simp only [World.size_alloc, World.size_setCell, World.size_drew] at *; omega) | (dsimp only; omega) | (simp; done) | (simp; omega)))) hV hatH.out).mono ?_; rintro e' w2 ⟨rfl, hb2⟩; have hb2' := Lib.hid (show Below wr.heap.size wr w2 by repeat (first | with_reducible exact bl_refl _ | with_reducible assumption | with_reducible refine bl_al ?_ _ | with_reducible refine bl_dr ?_ | with_reducible refine bl_tr ?_ (by assumption) | with_reducible refine bl_set ?_ ?_ _ | with_reducible exact Nat.le_refl _ | omega | (simp only [World.size_alloc, World.size_setCell, World.size_drew] at *; omega) | (dsimp only; omega) | (simp; done) | (simp; omega))); have hrow2 := Lib.hid (ownsRow_below hrow.out hb2'.out); have s2 := hb2'.out.size))
        have hT2 := hTH.out.below RTi.stable (hbw.out.trans (hb2'.out.mono hszw))
        have htm : t2 < m := by omega
        obtain ⟨ti, hti⟩ := hT2.get htm
        have hfour := hV.four t2 ti hti
        have hod : oppN d < 4 := by unfold oppN; split <;> omega
        obtain ⟨bt, ot, hTe, hbt, hct⟩ := hT2.ptr (by omega)
        subst hTe
        obtain ⟨e0, As, ns, cs, e1, hsd⟩ := hct t2 ti hti
        have hns := hsd.len
        obtain ⟨bs, os, rfl, hbs, hcs⟩ := hsd.ptr (by omega)
        obtain ⟨v, hv⟩ := hsd.get (k := oppN d) (by omega)
        have e2 := hcs (oppN d) v hv
        unfold RInt at e2
        simp only [Nat.mul_one] at e2
        obtain rfl : v = G := by rw [← hGH.out, sideI_eq hti hv]
        have cT2 := ((hbw.out.trans (hb2'.out.mono hszw)).cell (p := ⟨p, op + 1, none⟩) lp).trans cT
        have lp2 : p < w2.heap.size := by omega
        have hon : oppN d < ns := by omega
        have hon' : ((oppN d : Nat) : Int) < (ns : Int) := by omega
        have y0 := (hb2'.out.cell (p := ⟨w.heap.size, 0, none⟩) hsz).trans x0
        have y1 := (hb2'.out.cell (p := ⟨w.heap.size, 1, none⟩) hsz).trans x1
        clear hct hcs hsd hti hv hfour hT2 x0 x1 hb1 hb2
        refine wp_region_ord [(0, .q), (1, .q), (2, .q), (3, .q), (4, .q), (5, .q), (6, .q), (7, .q), (8, .q), (9, .q), (10, .g), (11, .q), (12, .q), (13, .g), (14, .b), (15, .q)] (by kernel_rfl) (by kernel_rfl) ?_
        simp only [pick, List.filterMap_cons, List.filterMap_nil, List.getElem?_toArray, List.getElem?_cons_zero, List.getElem?_cons_succ, Option.map_some]
        repeat (first
          | ((with_reducible refine wpD_p (fun K hK => ?_)); go_simp; refine hK _ ?_; clear hK K)
          | ((with_reducible refine wpD_q (fun K hK => ?_)); go_simp; (first | refine hK _ ?_ | (go_bits; refine hK _ ?_) | (go_bits; go_simp; refine hK _ ?_)); clear hK K)
          | ((with_reducible refine wpD_g (fun K hK => ?_)); go_simp; refine hK _ _ ?_; clear hK K)
          | ((with_reducible refine wpD_g (fun K hK => ?_)); go_simp; refine ⟨Grew.of_alloc _, hK _ _ ?_⟩; clear hK K)
          | ((with_reducible refine wpD_g (fun K hK => ?_)); go_simp; go_at_call 187; refine (sOppN_any _ _ hd4).mono ?_; rintro e _ ⟨rfl, rfl⟩; refine ⟨_, rfl, Below.refl _ _, hK _ _ ?_⟩; clear hK K))
        refine wpD_append rfl _ _ 51 rfl (w.heap.size + 1) 2 i0 (.int .i64 0) 1 8 Tryz.underlying51 hi hz0 hz1 hz2 rfl (by decide) (.slice A1 d c1) d (gluesV ts ys x y d) (by go_simp) (hrow2.out.drew.alloc _) ⟨w2.heap.size, 0, none⟩ 1 1 [.int .i64 v] (by go_simp) rfl ?hnews (fun x hx => by simp at hx; subst hx; rfl) (by unfold maxLen; omega) (by omega) (by simp; omega) ?_
        case hnews =>
          have := cell_one_new w2 (.int .i64 v) 2
          simpa using this
        intro v' w4 hown' hgrow
        have hfar : Below (w.heap.size + 1) w2.drew w4 := below_app (by simp; omega) (fun g e => (hrow2.out.lt g e).1) hgrow
        have hB4 := Lib.hid ((hbw.out.trans (hb2'.out.mono hszw)).drew.trans (hfar.mono (by omega)))
        have u0 := (hfar.cell (p := ⟨w.heap.size, 0, none⟩) (by simp)).trans y0
        have u1 := (hfar.cell (p := ⟨w.heap.size, 1, none⟩) (by simp)).trans y1
        have s4 := hfar.size
        simp only [World.size_drew] at s4
        have hownH := Lib.hid hown'
        clear hfar hown' hgrow
        repeat (first | ((with_reducible refine wpD_p (fun K hK => ?_)); go_simp; refine hK _ ?_; clear hK K) | ((with_reducible refine wpD_q (fun K hK => ?_)); go_simp; (first | refine hK _ ?_ | (go_bits; refine hK _ ?_) | (go_bits; go_simp; refine hK _ ?_)); clear hK K))
        with_reducible refine wpD_nil ?_
        go_wp2
        go_roundg (4 - (d + 1))
        case measure => omega
        case rel => exact ⟨d + 1, by omega, by go_num, Lib.hid (by rw [hg.out]; exact hownH.out), hB4, u0, u1, by omega⟩
    · obtain rfl : d = 4 := by omega
      clear x0 x1
      go_wp2
      obtain ⟨wq, rfl⟩ : ∃ wq : World, wq = wr := ⟨_, rfl⟩
      go_loopg [13, 12] m (fun g i v wr => ∃ j : Nat, j + g = m ∧ i = .int .i64 (j : Int) ∧ Hid (wr.ownsRow wq.heap.size 2 1 v (atL gs ts ys x y t j).length ((atL gs ts ys x y t j).map (Value.int .i64))) ∧ Hid (Below wq.heap.size wq wr))
      case atStart =>
        refine ⟨0, by omega, rfl, Lib.hid ?_, Lib.hid (bl_al (bl_refl _) _)⟩
        have := World.ownsRow_lit (base := wq.heap.size) (e := 2) (size := 1) wq #[] 0 (Nat.le_refl _) (by decide) rfl
        simpa [atL] using this
      case round =>
        obtain ⟨j, hj, rfl, hrj, hbj⟩ := hrel
        obtain ⟨A2, c2, hform⟩ := ownsRow_form hrj.out
        subst hform
        have hszj := hbj.out.size
        have hBj := Lib.hid (hbw.out.trans (hbj.out.mono hszw))
        have lpj : p < wr.heap.size := by omega
        have cTj := (hBj.out.cell (p := ⟨p, op + 1, none⟩) lp).trans cT
        by_cases hjm : j < m
        · have hLj := atL_len gs ts ys x y t j
          obtain ⟨L, hLe⟩ : ∃ L, atL gs ts ys x y t j = L := ⟨_, rfl⟩
          rw [hLe] at hrj hLj
          rw [hLe]
          have hLeH := Lib.hid hLe
          obtain ⟨N, hN⟩ : ∃ N, L.length = N := ⟨_, rfl⟩
          rw [hN] at hrj hLj
          rw [hN]
          have hNH := Lib.hid hN
          have hrow1 := Lib.hid (ownsRow_below hrow.out hbj.out)
          have hT2 := hTH.out.below RTi.stable hBj.out
          obtain ⟨ti, hti⟩ := hT2.get hjm
          have hfour := hV.four j ti hti
          obtain ⟨bt, ot, hTe, hbt, hct⟩ := hT2.ptr (by omega)
          subst hTe
          obtain ⟨e0, As, ns, cs, e1, hsd⟩ := hct j ti hti
          have hns := hsd.len
          obtain ⟨bs, os, rfl, hbs, hcs⟩ := hsd.ptr (by omega)
          obtain ⟨bg, hbg, hbg1, hbg2⟩ := row_block hrow1.out (by decide)
          subst hbg
          have hcsH := Lib.hid hcs
          have htiH := Lib.hid hti
          have hSj := Lib.hid (hS.out.below hBj.out)
          have hnsE : ns = 4 := by omega
          subst hnsE
          clear hct hcs hti hT2 hLe hN
          go_wp2
          obtain ⟨wj, rfl⟩ : ∃ wj : World, wj = wr := ⟨_, rfl⟩
          go_loopg [15, 14] 4 (fun g i s wr => ∃ d : Nat, d + g = 4 ∧ i = .int .i64 (d : Int) ∧ s = .int .i64 (bindN gs ts ys x y j d) ∧ Hid (Below wj.heap.size wj wr))
          case atStart => exact ⟨0, by omega, rfl, rfl, Lib.hid (bl_refl _)⟩
          case round =>
            obtain ⟨d, hd, rfl, rfl, hbd⟩ := hrel
            have hszd := hbd.out.size
            have hbb := bindN_bound hV x y j d
            obtain ⟨S, hSe⟩ : ∃ S, bindN gs ts ys x y j d = S := ⟨_, rfl⟩
            rw [hSe] at hbb
            rw [hSe]
            have hSeH := Lib.hid hSe
            have lpd : p < wr.heap.size := by omega
            have ltd : bt < wr.heap.size := by omega
            have lsd : bs < wr.heap.size := by omega
            have lgd : bg < wr.heap.size := by omega
            have cTd := (hbd.out.cell (p := ⟨p, op + 1, none⟩) lpj).trans cTj
            have f1 := (hbd.out.cell (p := ⟨bt, ot + j * 2 + 1, none⟩) hbt).trans e1
            by_cases hd4 : d < 4
            · have hdI : (d : Int) < 4 := by omega
              have hS0 : 0 ≤ S := hbb.1
              have hS1 : S ≤ 1000 := by have := hbb.2; omega
              clear hbb hSe
              obtain ⟨v, hv⟩ : ∃ v, ti.sides[d]? = some v := ⟨_, List.getElem?_eq_getElem (by omega)⟩
              have f2 := (hbd.out.cell (p := ⟨bs, os + d * 1, none⟩) hbs).trans (hcsH.out d v hv)
              have f3 := (hbd.out.cell (p := ⟨bg, d * 1, none⟩) hbg2).trans ((hrow1.out.cellAt (d * 1) (by omega)).trans (show (gluesV ts ys x y 4)[d * 1]? = some (.int .i64 (glueAt ts ys x y d)) by rw [Nat.mul_one]; exact gluesV_get 4 d hd4))
              simp only [Nat.mul_one] at f2 f3
              have hsI := sideI_eq htiH.out hv
              obtain ⟨G, hG, hGl⟩ := glueAt_nat hV x y d hd4
              rw [hG] at f3
              have hnx := Lib.hid (bindN_glue (gs := gs) (t := j) hSeH.out hG)
              rw [hsI] at hnx
              have hSd := Lib.hid (hSj.out.below hbd.out)
              have hgl := hV.gl
              have hst0 := strI_nonneg hV (G : Int)
              have hst4 := strI_le hV (G : Int)
              clear hsI hv hG
              by_cases hvG : v = (G : Int)
              · subst hvG
                have hnx' := Lib.hid (show bindN gs ts ys x y j (d + 1) = S + strI gs (G : Int) by rw [hnx.out, if_pos rfl])
                obtain ⟨q, hq⟩ : ∃ q, strI gs (G : Int) = q := ⟨_, rfl⟩
                rw [hq] at hst0 hst4 hnx'
                have hqH := Lib.hid hq
                clear hq
                go_wp2
                refine wp_region_ord [(0, .q), (1, .q), (2, .q), (3, .q), (4, .q), (5, .q), (6, .q), (7, .q), (8, .q), (9, .q), (10, .q), (11, .q), (12, .q), (13, .q), (14, .q), (15, .q)] (by kernel_rfl) (by kernel_rfl) ?_
                simp only [pick, List.filterMap_cons, List.filterMap_nil, List.getElem?_toArray, List.getElem?_cons_zero, List.getElem?_cons_succ, Option.map_some]
                repeat (first
                  | ((with_reducible refine wpD_p (fun K hK => ?_)); go_simp; refine hK _ ?_; clear hK K)
                  | ((with_reducible refine wpD_q (fun K hK => ?_)); go_simp; (first | refine hK _ ?_ | (go_bits; refine hK _ ?_) | (go_bits; go_simp; refine hK _ ?_)); clear hK K)
                  | ((with_reducible refine wpD_g (fun K hK => ?_)); go_simp; refine hK _ _ ?_; clear hK K)
                  | ((with_reducible refine wpD_g (fun K hK => ?_)); go_simp; refine ⟨Grew.of_alloc _, hK _ _ ?_⟩; clear hK K))
                with_reducible refine wpD_nil ?_
                go_wp2_with (go_at_call 188; refine (l02Strength_any _ gs ts G _ (hSd.out.below (by repeat (first | with_reducible exact bl_refl _ | with_reducible assumption | with_reducible refine bl_al ?_ _ | with_reducible refine bl_dr ?_ | with_reducible refine bl_tr ?_ (by assumption) | with_reducible refine bl_set ?_ ?_ _ | with_reducible exact Nat.le_refl _ | omega | (simp only [World.size_alloc, World.size_setCell, World.size_drew] at *; omega) | (dsimp only; omega) | (simp; done) | (simp; omega)))) hGl (by omega)).mono ?_; rw [hqH.out]; rintro e _ ⟨rfl, rfl⟩)
                go_roundg (4 - (d + 1))
                case measure => omega
                case rel => exact ⟨d + 1, by omega, by go_num, by rw [hnx'.out], Lib.hid (bl_dr hbd.out)⟩
              · have hne : (v == (G : Int)) = false := by simpa using hvG
                have hnx' := Lib.hid (show bindN gs ts ys x y j (d + 1) = S by rw [hnx.out, if_neg hvG]; omega)
                go_wp2
                refine wp_region_ord [(0, .q), (1, .q), (2, .q), (3, .q), (4, .q), (5, .q), (6, .q), (7, .q), (8, .q), (9, .q), (10, .q), (11, .q), (12, .q), (13, .q), (14, .q), (15, .q)] (by kernel_rfl) (by kernel_rfl) ?_
                simp only [pick, List.filterMap_cons, List.filterMap_nil, List.getElem?_toArray, List.getElem?_cons_zero, List.getElem?_cons_succ, Option.map_some]
                repeat (first
                  | ((with_reducible refine wpD_p (fun K hK => ?_)); go_simp; refine hK _ ?_; clear hK K)
                  | ((with_reducible refine wpD_q (fun K hK => ?_)); go_simp; (first | refine hK _ ?_ | (go_bits; refine hK _ ?_) | (go_bits; go_simp; refine hK _ ?_)); clear hK K)
                  | ((with_reducible refine wpD_g (fun K hK => ?_)); go_simp; refine hK _ _ ?_; clear hK K)
                  | ((with_reducible refine wpD_g (fun K hK => ?_)); go_simp; refine ⟨Grew.of_alloc _, hK _ _ ?_⟩; clear hK K))
                with_reducible refine wpD_nil ?_
                go_wp2
                go_roundg (4 - (d + 1))
                case measure => omega
                case rel => exact ⟨d + 1, by omega, by go_num, by rw [hnx'.out], Lib.hid (bl_dr hbd.out)⟩
            · obtain rfl : d = 4 := by omega
              have hrd := Lib.hid (ownsRow_below hrj.out hbd.out)
              have hBd := Lib.hid (hbj.out.trans (hbd.out.mono hszj))
              by_cases htS : t ≤ S
              · have hs := Lib.hid (show atL gs ts ys x y t (j + 1) = L ++ [(j : Int)] by rw [← hLeH.out]; exact atL_yes hSeH.out htS)
                clear hSe
                go_wp2_with (at_builtin; refine wpList_append_own _ rfl _ _ 51 rfl wq.heap.size 2 i0 (.int .i64 0) 1 8 Tryz.underlying51 hi hz0 hz1 hz2 rfl (by decide) _ N _ rfl (hrd.out.alloc _) ⟨wr.heap.size, 0, none⟩ 1 1 [.int .i64 (j : Int)] rfl rfl (by have := cell_one_new wr (.int .i64 (j : Int)) 2; simpa using this) (fun x hx => by simp at hx; subst hx; rfl) (by unfold maxLen; omega) (by omega) (by simp; omega) ?_; intro v' w4 hown' hgrow _)
                have hB4 := Lib.hid (hBd.out.trans (below_app (by omega) (fun g e => (hrd.out.lt g e).1) hgrow))
                have hownH := Lib.hid hown'
                clear hown' hgrow
                go_wp2
                go_roundg (m - (j + 1))
                case measure => omega
                case rel => exact ⟨j + 1, by omega, by go_num, Lib.hid (by rw [hs.out, List.length_append, List.map_append, hNH.out]; exact hownH.out), hB4⟩
              · have hs := Lib.hid (show atL gs ts ys x y t (j + 1) = L by rw [← hLeH.out]; exact atL_no hSeH.out htS)
                clear hSe
                go_wp2
                go_roundg (m - (j + 1))
                case measure => omega
                case rel => exact ⟨j + 1, by omega, by go_num, Lib.hid (by rw [hs.out, hNH.out]; exact hrd.out), hBd⟩
        · obtain rfl : j = m := by omega
          go_wp2
          go_ret
          exact ⟨_, rfl, ownsRow_base hrj.out hszw, hBj.out⟩
end Go.Proofs.YtcpbppblahpjbaaGreat
/- Walk: the tiles that can attach, the reference: whether there is one. -/


namespace Go.Proofs.YtcpbppblahpjbaaGreat
open Go.RowKit Go.Shelf
set_option linter.unusedSimpArgs false
set_option linter.unusedVariables false
attribute [local go_sem] BelowBy.cell BelowBy.cell_drew stillUpon givesUpon BelowBy.cell_drew2 BelowBy.cell_drew3

theorem infoOpt : (Tryz.prog.info? 82).map (fun i => (i.zero, i.size, i.bytes)) = some (some (.agg #[.int .i64 0, .int .i64 0, .int .i64 0]), 3, 24) := by kernel_rfl
/-- no tile binds at one of the first points of a list -/
def NoneAt (gs : List Gl) (ts : List Ti) (ys : List Pl) (t : Int) (L : List Pt) (j : Nat) : Prop := ∀ (i : Nat) (p : Pt), i < j → L[i]? = some p → atL gs ts ys p.x p.y t ts.length = []
theorem NoneAt.succ {gs : List Gl} {ts : List Ti} {ys : List Pl} {t : Int} {L : List Pt} {j : Nat} {p : Pt} (hp : L[j]? = some p) : NoneAt gs ts ys t L (j + 1) ↔ NoneAt gs ts ys t L j ∧ atL gs ts ys p.x p.y t ts.length = [] := by
  constructor
  · intro h; exact ⟨fun i q hi hq => h i q (by omega) hq, h j p (by omega) hp⟩
  · rintro ⟨h1, h2⟩ i q hi hq
    rcases Nat.lt_succ_iff_lt_or_eq.1 hi with hi | rfl
    · exact h1 i q hi hq
    · rw [hp] at hq; obtain rfl := Option.some.inj hq; exact h2
set_option maxRecDepth 100000 in
set_option maxHeartbeats 8000000 in
theorem l08Options_any {p pa : Nat} {gs : List Gl} {ts : List Ti} {xs ys : List Pl} {t : Int} {w : World} (h : SysAt w p 0 gs ts xs t) (h2 : AsmAt w pa 0 ys) (hV : Valid gs ts ys) :
    Calls Tryz.prog 83 #[.pointer (some ⟨p, 0, none⟩), .pointer (some ⟨pa, 0, none⟩)] w fun e w' => ∃ (v : Value) (N : Nat) (cs : List Value), e = .returned v ∧ w'.ownsRow w.heap.size 82 3 v N cs ∧ (N = 0 ↔ NoneAt gs ts ys t (nearK ys ys.length) (nearK ys ys.length).length) ∧ Below w.heap.size w w' := by
  obtain ⟨i0, hi, hz0, hz1, hz2⟩ := info_parts infoOpt
  
  have hS := Lib.hid h
  have hA := Lib.hid h2
  have lp := h.sat.s.lt
  have cT := h.temp
  have htl := hV.tl
  have hyl := hV.len
  clear h h2
  have hLl := nearK_len ys ys.length
  have hmem := Lib.hid (fun (q : Pt) (hq : q ∈ nearK ys ys.length) => (nearK_mem ys.length).1 hq)
  obtain ⟨Ln, hLn⟩ : ∃ Ln, nearK ys ys.length = Ln := ⟨_, rfl⟩
  rw [hLn] at hLl hmem ⊢
  have hLnH := Lib.hid hLn
  obtain ⟨M, hM⟩ : ∃ M, Ln.length = M := ⟨_, rfl⟩
  rw [hM] at hLl ⊢
  have hMH := Lib.hid hM
  clear hLn hM
  go_enter Tryz.func83, Tryz.ntmps83
  go_wp2_with fail
  refine (l08Near_any (hA.out.below (by repeat (first | with_reducible exact bl_refl _ | with_reducible assumption | with_reducible refine bl_al ?_ _ | with_reducible refine bl_dr ?_ | with_reducible refine bl_tr ?_ (by assumption) | with_reducible refine bl_set ?_ ?_ _ | with_reducible exact Nat.le_refl _ | omega | (simp only [World.size_alloc, World.size_setCell, World.size_drew] at *; omega) | (dsimp only; omega) | (simp; done) | (simp; omega)))) hV).mono ?_
  rw [hLnH.out, hMH.out]
  rintro e w1 ⟨v6, rfl, hrow6, hb1⟩
  obtain ⟨A6, c6, hform⟩ := ownsRow_form hrow6
  subst hform
  have s1 := hb1.size
  simp only [World.size_alloc] at s1 hrow6
  have hrow6H := Lib.hid hrow6
  have hrow5H := Lib.hid (show w1.ownsRow w.heap.size 82 3 (.slice (some ⟨w.heap.size, 0, none⟩) 0 0) 0 [] by
    have := World.ownsRow_lit (base := w.heap.size) (e := 82) (size := 3) w #[] 0 (Nat.le_refl _) (by decide) rfl
    exact ownsRow_below (by simpa using this) hb1)
  have hB1 := Lib.hid (show Below w.heap.size w w1 by repeat (first | with_reducible exact bl_refl _ | with_reducible assumption | with_reducible refine bl_al ?_ _ | with_reducible refine bl_dr ?_ | with_reducible refine bl_tr ?_ (by assumption) | with_reducible refine bl_set ?_ ?_ _ | with_reducible exact Nat.le_refl _ | omega | (simp only [World.size_alloc, World.size_setCell, World.size_drew] at *; omega) | (dsimp only; omega) | (simp; done) | (simp; omega)))
  clear hb1 hrow6
  go_wp2
  go_loopg [7, 5] M (fun g i v wr => ∃ (j N : Nat) (cs : List Value), j + g = M ∧ i = .int .i64 (j : Int) ∧ N ≤ 160 * j ∧ Hid (wr.ownsRow w.heap.size 82 3 v N cs) ∧ Hid (∀ b, v.ownBlock = some b → b = w.heap.size ∨ w1.heap.size ≤ b) ∧ Hid (N = 0 ↔ NoneAt gs ts ys t Ln j) ∧ Hid (wr.ownsRow (w.heap.size + 1) 80 2 (.slice A6 M c6) M (ptCells Ln)) ∧ Hid (∀ b, Value.ownBlock (.slice A6 M c6) = some b → b < w1.heap.size) ∧ Hid (Below w.heap.size w wr) ∧ w1.heap.size ≤ wr.heap.size)
  case atStart => exact ⟨0, 0, [], by omega, rfl, by omega, hrow5H, Lib.hid (fun b hb => by cases hb; exact Or.inl rfl), Lib.hid ⟨fun _ i q hi => by omega, fun _ => rfl⟩, hrow6H, Lib.hid (fun b hb => (hrow6H.out.lt b hb).2), hB1, Nat.le_refl _⟩
  case round =>
    obtain ⟨j, N, cs, hj, rfl, hN, hr5, hbk, hnon, hr6, hb6, hbw, hsw⟩ := hrel
    obtain ⟨A5, c5, hform⟩ := ownsRow_form hr5.out
    subst hform
    have hszw := hbw.out.size
    have cTw := (hbw.out.cell (p := ⟨p, 3, none⟩) lp).trans cT
    have lpw : p < wr.heap.size := by omega
    by_cases hjM : j < M
    · obtain ⟨q, hq⟩ : ∃ q, Ln[j]? = some q := ⟨_, List.getElem?_eq_getElem (by rw [hMH.out]; exact hjM)⟩
      have hvp : validPt q.x q.y = true := by obtain ⟨_, _, _, _, _, _, _, hv, _⟩ := hmem.out q (List.mem_of_getElem? hq); exact hv
      have hvp2 : (-60 ≤ q.x ∧ q.x ≤ 60) ∧ (-60 ≤ q.y ∧ q.y ≤ 60) := by
        unfold validPt at hvp; simp only [Bool.and_eq_true, inB_true] at hvp; exact hvp
      obtain ⟨b6, hA6, hb61, hb62⟩ := row_block hr6.out (by omega)
      subst hA6
      obtain ⟨p0, p1⟩ := ptCells_get Ln j q hq
      have c0 := (hr6.out.cellAt (j * 2) (by omega)).trans p0
      have c1 := (hr6.out.cellAt (j * 2 + 1) (by omega)).trans p1
      have hSw := Lib.hid (hS.out.below hbw.out)
      have hAw := Lib.hid (hA.out.below hbw.out)
      have hqH := Lib.hid hq
      have hb6w : b6 < w1.heap.size := hb6.out b6 rfl
      have hb6' : b6 ≤ wr.heap.size := by omega
      clear hq hvp p0 p1
      obtain ⟨La, hLa⟩ : ∃ La, atL gs ts ys q.x q.y t ts.length = La := ⟨_, rfl⟩
      have hLal := atL_len gs ts ys q.x q.y t ts.length
      rw [hLa] at hLal
      have hLaH := Lib.hid hLa
      obtain ⟨K, hK⟩ : ∃ K, La.length = K := ⟨_, rfl⟩
      rw [hK] at hLal
      have hKH := Lib.hid hK
      clear hLa hK
      go_wp2
      refine wp_region_ord [(0, .q), (1, .q), (2, .q), (3, .q), (4, .q), (5, .q), (6, .q), (7, .q), (8, .q), (9, .q), (10, .q), (11, .q), (12, .g), (13, .q)] (by kernel_rfl) (by kernel_rfl) ?_
      simp only [pick, List.filterMap_cons, List.filterMap_nil, List.getElem?_toArray, List.getElem?_cons_zero, List.getElem?_cons_succ, Option.map_some]
      repeat (first
        | ((with_reducible refine wpD_p (fun K hK => ?_)); go_simp; refine hK _ ?_; clear hK K)
        | ((with_reducible refine wpD_q (fun K hK => ?_)); go_simp; (first | refine hK _ ?_ | (go_bits; refine hK _ ?_) | (go_bits; go_simp; refine hK _ ?_)); clear hK K)
        | ((with_reducible refine wpD_g (fun K hK => ?_)); go_simp; refine hK _ _ ?_; clear hK K)
        | ((with_reducible refine wpD_g (fun K hK => ?_)); go_simp; refine ⟨Grew.of_alloc _, hK _ _ ?_⟩; clear hK K))
      with_reducible refine wpD_g (fun K hK => ?_)
      go_simp
      refine (l08At_any (hSw.out.sat.s.below (by repeat (first | with_reducible exact bl_refl _ | with_reducible assumption | with_reducible refine bl_al ?_ _ | with_reducible refine bl_dr ?_ | with_reducible refine bl_tr ?_ (by assumption) | with_reducible refine bl_set ?_ ?_ _ | with_reducible exact Nat.le_refl _ | omega | (simp only [World.size_alloc, World.size_setCell, World.size_drew] at *; omega) | (dsimp only; omega) | (simp; done) | (simp; omega)))) (hAw.out.below (by repeat (first | with_reducible exact bl_refl _ | with_reducible assumption | with_reducible refine bl_al ?_ _ | with_reducible refine bl_dr ?_ | with_reducible refine bl_tr ?_ (by assumption) | with_reducible refine bl_set ?_ ?_ _ | with_reducible exact Nat.le_refl _ | omega | (simp only [World.size_alloc, World.size_setCell, World.size_drew] at *; omega) | (dsimp only; omega) | (simp; done) | (simp; omega)))) hV ⟨by omega, by omega⟩ ⟨by omega, by omega⟩).mono ?_
      rw [hLaH.out, hKH.out]
      rintro e w3 ⟨v8, rfl, hrow8, hb3⟩
      refine ⟨_, rfl, hb3, hK _ _ ?_⟩
      clear hK K
      repeat (first
        | ((with_reducible refine wpD_p (fun K hK => ?_)); go_simp; refine hK _ ?_; clear hK K)
        | ((with_reducible refine wpD_q (fun K hK => ?_)); go_simp; (first | refine hK _ ?_ | (go_bits; refine hK _ ?_) | (go_bits; go_simp; refine hK _ ?_)); clear hK K)
        | ((with_reducible refine wpD_g (fun K hK => ?_)); go_simp; refine hK _ _ ?_; clear hK K)
        | ((with_reducible refine wpD_g (fun K hK => ?_)); go_simp; refine ⟨Grew.of_alloc _, hK _ _ ?_⟩; clear hK K))
      with_reducible refine wpD_nil ?_
      obtain ⟨A8, c8, hform⟩ := ownsRow_form hrow8
      subst hform
      simp only [World.size_drew] at hrow8
      have hb3' := Lib.hid (show Below wr.heap.size wr w3 by repeat (first | with_reducible exact bl_refl _ | with_reducible assumption | with_reducible refine bl_al ?_ _ | with_reducible refine bl_dr ?_ | with_reducible refine bl_tr ?_ (by assumption) | with_reducible refine bl_set ?_ ?_ _ | with_reducible exact Nat.le_refl _ | omega | (simp only [World.size_alloc, World.size_setCell, World.size_drew] at *; omega) | (dsimp only; omega) | (simp; done) | (simp; omega)))
      have s3 := hb3'.out.size
      have h8lt := Lib.hid (fun b hb => hrow8.lt b hb)
      have h5lt := Lib.hid (fun b hb => (hr5.out.lt b hb).2)
      have hrow8H := Lib.hid hrow8
      have hr5' := Lib.hid (ownsRow_below hr5.out hb3'.out)
      have hr6' := Lib.hid (ownsRow_below hr6.out hb3'.out)
      have hB3 := Lib.hid (hbw.out.trans (hb3'.out.mono hszw))
      clear hrow8 hb3 c0 c1 cTw
      go_wp2
      clear hb3' hbw hr5 hr6 hSw hAw
      obtain ⟨wq, rfl⟩ : ∃ wq : World, wq = wr := ⟨_, rfl⟩
      go_loopg [9, 5] K (fun g i v wr => ∃ (k N' : Nat) (cs' : List Value), k + g = K ∧ i = .int .i64 (k : Int) ∧ N' = N + k ∧ Hid (wr.ownsRow w.heap.size 82 3 v N' cs') ∧ Hid (∀ b, v.ownBlock = some b → (b = w.heap.size ∨ w1.heap.size ≤ b) ∧ (b < wq.heap.size ∨ w3.heap.size ≤ b)) ∧ Hid (wr.ownsRow (w.heap.size + 1) 80 2 (.slice (some ⟨b6, 0, none⟩) M c6) M (ptCells Ln)) ∧ Hid (wr.ownsRow wq.heap.size 2 1 (.slice A8 K c8) K (La.map (Value.int .i64))) ∧ Hid (Below w.heap.size w wr) ∧ w3.heap.size ≤ wr.heap.size)
      case atStart => exact ⟨0, N, cs, by omega, rfl, rfl, hr5', Lib.hid (fun b hb => ⟨hbk.out b hb, Or.inl (h5lt.out b hb)⟩), hr6', hrow8H, hB3, Nat.le_refl _⟩
      case round =>
        obtain ⟨k, N', cs', hk, rfl, hN', hx5, hxk, hx6, hx8, hbx, hsx⟩ := hrel
        obtain ⟨A5', c5', hform⟩ := ownsRow_form hx5.out
        subst hform
        have hszx := hbx.out.size
        by_cases hkK : k < K
        · obtain ⟨b8, hA8, hb81, hb82⟩ := row_block hx8.out (by omega)
          subst hA8
          have hb8b := h8lt.out b8 rfl
          obtain ⟨p0, p1⟩ := ptCells_get Ln j q hqH.out
          have c0 := (hx6.out.cellAt (j * 2) (by omega)).trans p0
          have c1 := (hx6.out.cellAt (j * 2 + 1) (by omega)).trans p1
          obtain ⟨a, ha⟩ : ∃ a, La[k]? = some a := ⟨_, List.getElem?_eq_getElem (by rw [hKH.out]; exact hkK)⟩
          have c2 : wr.cell? ⟨b8, k * 1, none⟩ = some (.int .i64 a) := (hx8.out.cellAt (k * 1) (by omega)).trans (by rw [Nat.mul_one, List.getElem?_map, ha]; rfl)
          simp only [Nat.mul_one] at c2
          have hb6x : b6 < wr.heap.size := by omega
          clear p0 p1 ha
          go_wp2
          refine wp_region_ord [(0, .q), (1, .q), (2, .q), (3, .q), (4, .q), (5, .q), (6, .q), (7, .q), (8, .q), (9, .q), (10, .g), (11, .b), (12, .q)] (by kernel_rfl) (by kernel_rfl) ?_
          simp only [pick, List.filterMap_cons, List.filterMap_nil, List.getElem?_toArray, List.getElem?_cons_zero, List.getElem?_cons_succ, Option.map_some]
          repeat (first | ((with_reducible refine wpD_p (fun K hK => ?_)); go_simp; refine hK _ ?_; clear hK K) | ((with_reducible refine wpD_q (fun K hK => ?_)); go_simp; (first | refine hK _ ?_ | (go_bits; refine hK _ ?_) | (go_bits; go_simp; refine hK _ ?_)); clear hK K))
          with_reducible refine wpD_g (fun K hK => ?_)
          go_simp
          refine ⟨Grew.of_alloc _, hK _ _ ?_⟩
          clear hK K
          refine wpD_append_at rfl _ _ 121 rfl w.heap.size 82 i0 (.agg #[.int .i64 0, .int .i64 0, .int .i64 0]) 3 24 Tryz.underlying121 hi hz0 hz1 hz2 rfl (by decide) (.slice A5' N' c5') N' cs' (by go_simp) (hx5.out.drew.alloc _) ⟨wr.heap.size, 0, none⟩ 1 1 [.int .i64 q.x, .int .i64 q.y, .int .i64 a] (by go_simp) rfl ?hnews (fun x hx => by simp at hx; rcases hx with rfl | rfl | rfl <;> rfl) (by unfold maxLen; omega) (by omega) (by simp; omega) ?_
          case hnews =>
            have := cell_three_new wr (.int .i64 q.x) (.int .i64 q.y) (.int .i64 a) 82
            simpa using this
          intro v' w5 hown' hgrow hob
          have hB5 := Lib.hid ((bl_dr hbx.out).trans (below_app (B0 := w.heap.size) (by simp; omega) (fun g e => (hx5.out.lt g e).1) hgrow))
          have s5 := hgrow.size
          simp only [World.size_alloc, World.size_drew] at s5 hob
          have h6' := Lib.hid ((hx6.out.drew.alloc _).kept hgrow (Or.inr (fun hh => by
            have h1 := (hxk.out b6 hh.symm).1
            omega)))
          have h8' := Lib.hid ((hx8.out.drew.alloc _).kept hgrow (Or.inr (fun hh => by
            have h1 := (hxk.out b8 hh.symm).2
            omega)))
          have hk' := Lib.hid (show ∀ b, v'.ownBlock = some b → (b = w.heap.size ∨ w1.heap.size ≤ b) ∧ (b < wq.heap.size ∨ w3.heap.size ≤ b) from fun b hb => by
            rcases hob with ho | ho
            · exact hxk.out b (ho ▸ hb)
            · rw [ho] at hb; cases hb; omega)
          have hownH := Lib.hid hown'
          clear hown' hgrow hob c0 c1 c2
          repeat (first | ((with_reducible refine wpD_p (fun K hK => ?_)); go_simp; refine hK _ ?_; clear hK K) | ((with_reducible refine wpD_q (fun K hK => ?_)); go_simp; (first | refine hK _ ?_ | (go_bits; refine hK _ ?_) | (go_bits; go_simp; refine hK _ ?_)); clear hK K))
          with_reducible refine wpD_nil ?_
          go_wp2
          go_roundg (K - (k + 1))
          case measure => omega
          case rel => exact ⟨k + 1, N' + 1, _, by omega, by go_num, by omega, hownH, hk', h6', h8', hB5, by omega⟩
        · obtain rfl : k = K := by omega
          have hs := Lib.hid (show N' = 0 ↔ NoneAt gs ts ys t Ln (j + 1) by
            rw [NoneAt.succ hqH.out, ← hnon.out, hLaH.out, ← List.length_eq_zero_iff, hKH.out]; omega)
          go_wp2
          go_roundg (M - (j + 1))
          case measure => omega
          case rel => exact ⟨j + 1, N', cs', by omega, by go_num, by omega, hx5, Lib.hid (fun b hb => (hxk.out b hb).1), hs, hx6, hb6, hbx, by omega⟩
    · obtain rfl : j = M := by omega
      go_wp2
      go_ret
      exact ⟨_, N, cs, rfl, hr5.out, hnon.out, hbw.out⟩
end Go.Proofs.YtcpbppblahpjbaaGreat
/- Walk: a new crystal of an assembly. -/

namespace Go.Proofs.YtcpbppblahpjbaaGreat
open Go.RowKit Go.Shelf
set_option linter.unusedSimpArgs false
set_option linter.unusedVariables false
attribute [local go_sem] BelowBy.cell BelowBy.cell_drew stillUpon givesUpon BelowBy.cell_drew2 BelowBy.cell_drew3

/-- the first tiles of an assembly, by their points -/
def tilesM (ys : List Pl) : Nat → Int → Int → Option Int
  | 0 => fun _ _ => none
  | k + 1 => fun i j => match ys[k]? with
    | some e => if i = e.x ∧ j = e.y then some e.t else tilesM ys k i j
    | none => tilesM ys k i j
theorem tilesM_succ {ys : List Pl} {k : Nat} {e : Pl} (h : ys[k]? = some e) : tilesM ys (k + 1) = fun i j => if i = e.x ∧ j = e.y then some e.t else tilesM ys k i j := by
  funext i j; simp only [tilesM, h]
theorem tilesM_none {ys : List Pl} {x y : Int} (h : ∀ (k : Nat) (e : Pl), ys[k]? = some e → ¬ (e.x = x ∧ e.y = y)) : ∀ k, tilesM ys k x y = none
  | 0 => rfl
  | k + 1 => by
    simp only [tilesM]
    split
    · rename_i e he
      rw [if_neg (fun hh => h k e he ⟨hh.1.symm, hh.2.symm⟩)]; exact tilesM_none h k
    · exact tilesM_none h k
theorem tilesM_some {gs : List Gl} {ts : List Ti} {ys : List Pl} (hV : Valid gs ts ys) {x y : Int} {i : Nat} {e : Pl} (he : ys[i]? = some e) (hx : e.x = x) (hy : e.y = y) : ∀ k, i < k → tilesM ys k x y = some e.t
  | 0, h => by omega
  | k + 1, h => by
    simp only [tilesM]
    rcases Nat.lt_succ_iff_lt_or_eq.1 h with h | rfl
    · split
      · rename_i d hd
        have := (lessPt_iff _ _ _ _).1 (hV.sorted i k e d h he hd)
        rw [if_neg (fun hh => by omega)]; exact tilesM_some hV he hx hy k h
      · exact tilesM_some hV he hx hy k h
    · rw [he]; simp [hx, hy]
theorem tilesM_at {gs : List Gl} {ts : List Ti} {ys : List Pl} (hV : Valid gs ts ys) (x y : Int) : (tilesM ys ys.length x y).getD (-1) = atI ys x y := by
  by_cases h : ∃ (i : Nat) (e : Pl), ys[i]? = some e ∧ e.x = x ∧ e.y = y
  · obtain ⟨i, e, he, hx, hy⟩ := h
    rw [tilesM_some hV he hx hy _ (lt_of_get he), atI_some (IsPlace.eq hV (place_found he hx hy)).symm he]; rfl
  · have h' : ∀ (k : Nat) (e : Pl), ys[k]? = some e → ¬ (e.x = x ∧ e.y = y) := fun k e he hh => h ⟨k, e, he, hh⟩
    rw [tilesM_none h', atI_none (IsPlace.eq hV (Or.inl ⟨rfl, h'⟩)).symm]; rfl
/-- the points next to the first tiles of which F holds -/
def nearS (F : Int → Int → Bool) (ys : List Pl) : Nat → Int → Int → Bool
  | 0 => fun _ _ => false
  | k + 1 => match ys[k]? with
    | some e => lookS F (nearS F ys k) e.x e.y 4
    | none => nearS F ys k
theorem nearS_succ {F : Int → Int → Bool} {ys : List Pl} {k : Nat} {e : Pl} (h : ys[k]? = some e) : nearS F ys (k + 1) = lookS F (nearS F ys k) e.x e.y 4 := by
  simp only [nearS, h]
theorem nearS_sub {F : Int → Int → Bool} {ys : List Pl} : ∀ k i j, nearS F ys k i j = true → F i j = true
  | 0, i, j, h => by cases h
  | k + 1, i, j, h => by
    cases hk : ys[k]? with
    | none => simp only [nearS, hk] at h; exact nearS_sub k i j h
    | some e => simp only [nearS, hk] at h; exact lookS_sub (nearS_sub k) _ _ _ i j h
theorem lookS_iff {F S : Int → Int → Bool} {x y i j : Int} : ∀ d, lookS F S x y d i j = true ↔ S i j = true ∨ (F i j = true ∧ ∃ d' : Nat, d' < d ∧ i = stepX x d' ∧ j = stepY y d')
  | 0 => by simp [lookS]
  | d + 1 => by
    simp only [lookS, Bool.or_eq_true, Bool.and_eq_true, decide_eq_true_eq, lookS_iff d]
    constructor
    · rintro ((h | ⟨h, d', h1, h2⟩) | ⟨h1, h2⟩)
      · exact Or.inl h
      · exact Or.inr ⟨h, d', by omega, h2⟩
      · exact Or.inr ⟨h2, d, by omega, h1⟩
    · rintro (h | ⟨h, d', h1, h2⟩)
      · exact Or.inl (Or.inl h)
      · rcases Nat.lt_succ_iff_lt_or_eq.1 h1 with h1 | rfl
        · exact Or.inl (Or.inr ⟨h, d', h1, h2⟩)
        · exact Or.inr ⟨h2, h⟩
theorem nearS_iff {F : Int → Int → Bool} {ys : List Pl} {i j : Int} : ∀ k, nearS F ys k i j = true ↔ F i j = true ∧ ∃ (a : Nat) (e : Pl) (d : Nat), a < k ∧ ys[a]? = some e ∧ d < 4 ∧ i = stepX e.x d ∧ j = stepY e.y d
  | 0 => by simp [nearS]
  | k + 1 => by
    cases hk : ys[k]? with
    | none =>
      simp only [nearS, hk]
      rw [nearS_iff k]
      constructor
      · rintro ⟨h, a, e, d, h1, h2⟩; exact ⟨h, a, e, d, by omega, h2⟩
      · rintro ⟨h, a, e, d, h1, h2, h3⟩
        rcases Nat.lt_succ_iff_lt_or_eq.1 h1 with h1 | rfl
        · exact ⟨h, a, e, d, h1, h2, h3⟩
        · rw [hk] at h2; cases h2
    | some e =>
      simp only [nearS, hk]
      rw [lookS_iff, nearS_iff k]
      constructor
      · rintro (⟨h, a, e, d, h1, h2⟩ | ⟨h, d, h1, h2⟩)
        · exact ⟨h, a, e, d, by omega, h2⟩
        · exact ⟨h, k, e, d, by omega, hk, h1, h2⟩
      · rintro ⟨h, a, e', d, h1, h2, h3⟩
        rcases Nat.lt_succ_iff_lt_or_eq.1 h1 with h1 | rfl
        · exact Or.inl ⟨h, a, e', d, h1, h2, h3⟩
        · rw [hk] at h2; obtain rfl := Option.some.inj h2; exact Or.inr ⟨h, d, h3⟩
theorem Crys.put {w w' : World} {p tb ob : Nat} {G : Option Addr} {n cg : Nat} {T : Option Addr} {m ct : Nat} {A : Option Addr} {q ca : Nat} {t : Int} {nt nt' : Nat} {M M' : Int → Int → Option Int} (h : Crys w p tb ob G n cg T m ct A q ca t nt M) (hm : Mk tb (tb + 1) w w') (hp : tb + 1 ≤ p) (h' : PMap w' tb nt' M') : Crys w' p tb ob G n cg T m ct A q ca t nt' M' := by
  have hk : w'.heap[p]? = w.heap[p]? := hm.keep p hp h.lt
  exact ⟨Nat.lt_of_lt_of_le h.lt hm.size, (World.cell?_of_block (a := ⟨p, 0, none⟩) hk).trans h.c0, (World.cell?_of_block (a := ⟨p, 1, none⟩) hk).trans h.c1, (World.cell?_of_block (a := ⟨p, 2, none⟩) hk).trans h.c2, (World.cell?_of_block (a := ⟨p, 3, none⟩) hk).trans h.c3, (World.cell?_of_block (a := ⟨p, 4, none⟩) hk).trans h.c4, (World.cell?_of_block (a := ⟨p, 5, none⟩) hk).trans h.c5, h'⟩
set_option maxRecDepth 100000 in
set_option maxHeartbeats 4000000 in
theorem newCrystal_any {G T A C : Option Addr} {n cg m ct q ca k cc : Nat} {gs : List Gl} {ts : List Ti} {ys : List Pl} {te : Int} {w : World} (hG : RdSl 2 RGl w G n gs) (hT : RdSl 2 RTi w T m ts) (hA : RdSl 3 RPl w C k ys) (hV : Valid gs ts ys) :
    Calls Tryz.prog 84 #[.agg #[.slice G n cg, .slice T m ct, .slice A q ca, .int .i64 te], .agg #[.slice C k cc]] w fun e w' => ∃ (p tb ob nt no : Nat) (M : Int → Int → Option Int), e = .returned (.pointer (some ⟨p, 0, none⟩)) ∧ Crys w' p tb ob G n cg T m ct A q ca te nt M ∧ (∀ i j, W64 i → W64 j → (M i j).getD (-1) = atI ys i j) ∧ OMap w' ob no (nearS (fitA gs ts ys te) ys ys.length) ∧ no ≤ 1000000 ∧ Below w.heap.size w w' := by
  have hkl := hA.len
  have hk5 : k ≤ 500 := by rw [← hkl]; exact hV.len
  have hGH := Lib.hid hG
  have hTH := Lib.hid hT
  have hAH := Lib.hid hA
  clear hG hT hA
  have hmm := @run_makeMap Tryz.prog
  go_enter Tryz.func84, Tryz.ntmps84
  go_wp2
  simp only [Nat.add_assoc, Nat.reduceAdd]
  go_loopg [18] k (fun g c wr => ∃ (j : Nat), j + g = k ∧ c = .int .i64 (j : Int) ∧ Hid (Crys wr (w.heap.size + 4) (w.heap.size + 2) (w.heap.size + 3) G n cg T m ct A q ca te j (tilesM ys j)) ∧ Hid (OMap wr (w.heap.size + 3) 0 (fun _ _ => false)) ∧ Hid (Below w.heap.size w wr) ∧ wr.cell? ⟨w.heap.size + 1, 0, none⟩ = some (.slice C k cc) ∧ w.heap.size + 4 < wr.heap.size)
  case atStart =>
    refine ⟨0, by omega, rfl, Lib.hid ⟨by simp, by go_simp, by go_simp, by go_simp, by go_simp, by go_simp, by go_simp, ?_⟩, Lib.hid ?_, Lib.hid (by repeat (first | with_reducible exact bl_refl _ | with_reducible assumption | with_reducible refine bl_al ?_ _ | with_reducible refine bl_dr ?_ | with_reducible refine bl_tr ?_ (by assumption) | with_reducible refine bl_set ?_ ?_ _ | with_reducible exact Nat.le_refl _ | omega | (simp only [World.size_alloc, World.size_setCell, World.size_drew] at *; omega) | (dsimp only; omega) | (simp; done) | (simp; omega))), by go_simp, by simp⟩
    · have := PMap.made ((w.alloc (Obj.cells #[.slice G n cg, .slice T m ct, .slice A q ca, .int .i64 te] 43)).alloc (Obj.cells #[.slice C k cc] 41))
      simp only [World.size_alloc] at this
      exact PMap.below this (bl_al (bl_al (bl_refl _) _) _)
    · have := OMap.made (((w.alloc (Obj.cells #[.slice G n cg, .slice T m ct, .slice A q ca, .int .i64 te] 43)).alloc (Obj.cells #[.slice C k cc] 41)).alloc (.map #[] 0))
      simp only [World.size_alloc] at this
      exact OMap.below this (bl_al (bl_refl _) _)
  case round =>
    obtain ⟨j, hj, rfl, hCr, hO, hbw, x0, hsz⟩ := hrel
    have e4 := hCr.out.c4
    have lb1 : w.heap.size + 1 < wr.heap.size := by omega
    have hsz' : w.heap.size + 4 ≤ wr.heap.size := by omega
    by_cases hjk : j < k
    · have hCw := hAH.out.below RPl.stable hbw.out
      obtain ⟨e, he⟩ := hCw.get hjk
      obtain ⟨b, ob, hCe, hb, hc⟩ := hCw.ptr (by omega)
      subst hCe
      obtain ⟨d0, d1, d2⟩ := hc j e he
      have hpt := hV.pt j e he
      obtain ⟨tn, htn, htl⟩ := hV.ti j e he
      have htl2 := hV.tl
      have hW1 := Lib.hid (show W64 e.x from W64.of (by omega))
      have hW2 := Lib.hid (show W64 e.y from W64.of (by omega))
      have hW3 := Lib.hid (show W64 e.t from W64.of (by omega))
      have hs := Lib.hid (tilesM_succ he)
      clear hc he hCw htn
      go_wp2
      refine wp_region_ord [(0, .q), (1, .q), (2, .q), (3, .q), (4, .q), (5, .q), (6, .q), (7, .q), (8, .b)] (by kernel_rfl) (by kernel_rfl) ?_
      simp only [pick, List.filterMap_cons, List.filterMap_nil, List.getElem?_toArray, List.getElem?_cons_zero, List.getElem?_cons_succ, Option.map_some]
      repeat (first | ((with_reducible refine wpD_p (fun K hK => ?_)); go_simp; refine hK _ ?_; clear hK K) | ((with_reducible refine wpD_q (fun K hK => ?_)); go_simp; (first | refine hK _ ?_ | (go_bits; refine hK _ ?_) | (go_bits; go_simp; refine hK _ ?_)); clear hK K))
      refine wpD_put_pmap rfl _ _ _ rfl (w.heap.size + 2) j _ (by go_simp) (hCr.out.tiles.below (by repeat (first | with_reducible exact bl_refl _ | with_reducible assumption | with_reducible refine bl_al ?_ _ | with_reducible refine bl_dr ?_ | with_reducible refine bl_tr ?_ (by assumption) | with_reducible refine bl_set ?_ ?_ _ | with_reducible exact Nat.le_refl _ | omega | (simp only [World.size_alloc, World.size_setCell, World.size_drew] at *; omega) | (dsimp only; omega) | (simp; done) | (simp; omega)))) e.x e.y e.t hW1.out hW2.out hW3.out (by unfold maxLen; omega) (by go_simp) (by go_simp) ?_
      intro w3 hM3 hm3
      with_reducible refine wpD_nil ?_
      have hm := Lib.hid ((Mk.of_below (lo := w.heap.size + 2) (hi := w.heap.size + 3) (show Below wr.heap.size wr _ by repeat (first | with_reducible exact bl_refl _ | with_reducible assumption | with_reducible refine bl_al ?_ _ | with_reducible refine bl_dr ?_ | with_reducible refine bl_tr ?_ (by assumption) | with_reducible refine bl_set ?_ ?_ _ | with_reducible exact Nat.le_refl _ | omega | (simp only [World.size_alloc, World.size_setCell, World.size_drew] at *; omega) | (dsimp only; omega) | (simp; done) | (simp; omega))) (by omega)).trans hm3)
      have hM3H := Lib.hid hM3
      have v0 := (hm.out.below.cell (p := ⟨w.heap.size + 1, 0, none⟩) (by simp)).trans x0
      have s3 := hm.out.size
      clear hM3 hm3 d0 d1 d2 e4 x0
      go_wp2
      go_roundg (k - (j + 1))
      case measure => omega
      case rel => exact ⟨j + 1, by omega, by go_num, Lib.hid (hCr.out.put hm.out (by omega) (by rw [hs.out]; exact hM3H.out)), Lib.hid (hO.out.mk hm.out (by omega)), Lib.hid (hbw.out.trans (hm.out.below.mono (by omega))), v0, by omega⟩
    · obtain rfl : j = k := by omega
      have hMH := Lib.hid (fun (i j : Int) (_ : W64 i) (_ : W64 j) => hkl ▸ tilesM_at hV i j)
      clear e4
      go_wp2
      obtain ⟨wq, rfl⟩ : ∃ wq : World, wq = wr := ⟨_, rfl⟩
      go_loopg [34] j (fun g c wr => ∃ (i no : Nat), i + g = j ∧ c = .int .i64 (i : Int) ∧ no ≤ 4 * i ∧ Hid (Crys wr (w.heap.size + 4) (w.heap.size + 2) (w.heap.size + 3) G n cg T m ct A q ca te j (tilesM ys j)) ∧ Hid (OMap wr (w.heap.size + 3) no (nearS (fitA gs ts ys te) ys i)) ∧ Hid (Below w.heap.size w wr) ∧ wr.cell? ⟨w.heap.size + 1, 0, none⟩ = some (.slice C j cc) ∧ w.heap.size + 4 < wr.heap.size)
      case atStart => exact ⟨0, 0, by omega, rfl, by omega, hCr, hO, hbw, by go_simp, by omega⟩
      case round =>
        obtain ⟨i, no, hi, rfl, hno, hCx, hOx, hbx, z0, hsx⟩ := hrel
        have lb2 : w.heap.size + 1 < wr.heap.size := by omega
        by_cases hij : i < j
        · have hCw := hAH.out.below RPl.stable hbx.out
          obtain ⟨e, he⟩ := hCw.get hij
          obtain ⟨b, ob, hCe, hb, hc⟩ := hCw.ptr (by omega)
          subst hCe
          obtain ⟨d0, d1, d2⟩ := hc i e he
          have hpt := hV.pt i e he
          have hs := Lib.hid (nearS_succ (F := fitA gs ts ys te) he)
          clear hc he hCw
          go_wp2_with fail
          refine (lookAround_any (w0 := w) hGH.out hTH.out (bl_al hbx.out _) (by omega) (hCx.out.below (by repeat (first | with_reducible exact bl_refl _ | with_reducible assumption | with_reducible refine bl_al ?_ _ | with_reducible refine bl_dr ?_ | with_reducible refine bl_tr ?_ (by assumption) | with_reducible refine bl_set ?_ ?_ _ | with_reducible exact Nat.le_refl _ | omega | (simp only [World.size_alloc, World.size_setCell, World.size_drew] at *; omega) | (dsimp only; omega) | (simp; done) | (simp; omega)))) hMH.out (hOx.out.below (by repeat (first | with_reducible exact bl_refl _ | with_reducible assumption | with_reducible refine bl_al ?_ _ | with_reducible refine bl_dr ?_ | with_reducible refine bl_tr ?_ (by assumption) | with_reducible refine bl_set ?_ ?_ _ | with_reducible exact Nat.le_refl _ | omega | (simp only [World.size_alloc, World.size_setCell, World.size_drew] at *; omega) | (dsimp only; omega) | (simp; done) | (simp; omega)))) (by omega) (by omega) (by omega) (nearS_sub i) hV (by omega) (by omega)).mono ?_
          rintro e' w2 ⟨rfl, ⟨no', hno', hO'⟩, hm⟩
          have hm2 := Lib.hid ((Mk.of_below (lo := w.heap.size + 3) (hi := w.heap.size + 4) (show Below wr.heap.size wr _ by repeat (first | with_reducible exact bl_refl _ | with_reducible assumption | with_reducible refine bl_al ?_ _ | with_reducible refine bl_dr ?_ | with_reducible refine bl_tr ?_ (by assumption) | with_reducible refine bl_set ?_ ?_ _ | with_reducible exact Nat.le_refl _ | omega | (simp only [World.size_alloc, World.size_setCell, World.size_drew] at *; omega) | (dsimp only; omega) | (simp; done) | (simp; omega))) (by omega)).trans hm)
          have hO'H := Lib.hid hO'
          have v0 := (hm2.out.below.cell (p := ⟨w.heap.size + 1, 0, none⟩) (by simp)).trans z0
          have s3 := hm2.out.size
          clear hO' hm d0 d1 d2 z0
          go_wp2
          go_roundg (j - (i + 1))
          case measure => omega
          case rel => exact ⟨i + 1, no', by omega, by go_num, by omega, Lib.hid (hCx.out.mkd hm2.out (by omega) (by omega)), Lib.hid (by rw [hs.out]; exact hO'H.out), Lib.hid (hbx.out.trans (hm2.out.below.mono (by omega))), v0, by omega⟩
        · obtain rfl : i = j := by omega
          go_wp2
          go_ret
          exact ⟨_, _, _, _, no, _, rfl, hCx.out, hMH.out, by rw [hkl]; exact hOx.out, by omega, hbx.out⟩
end Go.Proofs.YtcpbppblahpjbaaGreat
/- Walks: whether an assembly is terminal, by the program and by the reference. -/



namespace Go.Proofs.YtcpbppblahpjbaaGreat
open Go.RowKit Go.Shelf
set_option linter.unusedSimpArgs false
set_option linter.unusedVariables false
attribute [local go_sem] BelowBy.cell BelowBy.cell_drew stillUpon givesUpon BelowBy.cell_drew2 BelowBy.cell_drew3

theorem atL_empty {gs : List Gl} {ts : List Ti} {ys : List Pl} {x y t : Int} : ∀ n, atL gs ts ys x y t n = [] ↔ ∀ k, k < n → ¬ t ≤ bindN gs ts ys x y k 4
  | 0 => by simp [atL]
  | n + 1 => by
    simp only [atL]
    split
    · rename_i h
      constructor
      · intro hh; simp at hh
      · intro hh; exact (hh n (by omega) h).elim
    · rename_i h
      rw [atL_empty n]
      constructor
      · intro hh k hk
        rcases Nat.lt_succ_iff_lt_or_eq.1 hk with hk | rfl
        · exact hh k hk
        · exact h
      · intro hh k hk; exact hh k (by omega)
theorem fitU_iff {gs : List Gl} {ts : List Ti} {ys : List Pl} {t x y : Int} : ∀ n, fitU gs ts ys t x y n = true ↔ ∃ k, k < n ∧ fitB gs ts ys t x y k = true
  | 0 => by simp [fitU]
  | n + 1 => by
    simp only [fitU, Bool.or_eq_true]
    rw [fitU_iff n]
    constructor
    · rintro (⟨k, h1, h2⟩ | h)
      · exact ⟨k, by omega, h2⟩
      · exact ⟨n, by omega, h⟩
    · rintro ⟨k, h1, h2⟩
      rcases Nat.lt_succ_iff_lt_or_eq.1 h1 with h1 | rfl
      · exact Or.inl ⟨k, h1, h2⟩
      · exact Or.inr h2
theorem at_place {gs : List Gl} {ts : List Ti} {ys : List Pl} (hV : Valid gs ts ys) (x y : Int) : atI ys x y < 0 ↔ placeI ys x y < 0 := by
  rcases atI_cases hV x y with ⟨h1, h2⟩ | ⟨k, t, e, h1, _, _, _, h2⟩
  · rw [h1, h2]
  · rw [h1, h2]; omega
/-- nothing can attach -/
def Terminal (gs : List Gl) (ts : List Ti) (t : Int) (ys : List Pl) : Prop := NoneAt gs ts ys t (nearK ys ys.length) (nearK ys ys.length).length
theorem terminal_iff {gs : List Gl} {ts : List Ti} {t : Int} {ys : List Pl} (hV : Valid gs ts ys) : (∀ x y, W64 x → W64 y → nearS (fitA gs ts ys t) ys ys.length x y = false) ↔ Terminal gs ts t ys := by
  constructor
  · intro h i p hi hp
    have hm := (nearK_mem ys.length).1 (List.mem_of_getElem? hp)
    obtain ⟨a, e, d, ha, he, hd, hpe, hv, hpl⟩ := hm
    have hvp : (-60 ≤ p.x ∧ p.x ≤ 60) ∧ (-60 ≤ p.y ∧ p.y ≤ 60) := by
      unfold validPt at hv; simp only [Bool.and_eq_true, inB_true] at hv; exact hv
    rw [atL_empty]
    intro k hk hle
    have hf : fitA gs ts ys t p.x p.y = true := by
      unfold fitA; rw [fitU_iff]
      refine ⟨k, hk, ?_⟩
      unfold fitB
      rw [hv, decide_eq_true ((at_place hV _ _).2 hpl), decide_eq_true hle]; rfl
    have hn : nearS (fitA gs ts ys t) ys ys.length p.x p.y = true := (nearS_iff _).2 ⟨hf, a, e, d, ha, he, hd, by rw [hpe], by rw [hpe]⟩
    rw [h p.x p.y (W64.of (by omega)) (W64.of (by omega))] at hn
    cases hn
  · intro h x y _ _
    cases hn : nearS (fitA gs ts ys t) ys ys.length x y
    · rfl
    · obtain ⟨hf, a, e, d, ha, he, hd, hx, hy⟩ := (nearS_iff _).1 hn
      unfold fitA at hf
      obtain ⟨k, hk, hb⟩ := (fitU_iff _).1 hf
      unfold fitB at hb
      simp only [Bool.and_eq_true, decide_eq_true_eq] at hb
      have hmem : (⟨x, y⟩ : Pt) ∈ nearK ys ys.length := (nearK_mem _).2 ⟨a, e, d, ha, he, hd, by rw [hx, hy], hb.1.1, (at_place hV _ _).1 hb.1.2⟩
      obtain ⟨i, hi, hie⟩ := List.mem_iff_getElem.1 hmem
      have := h i ⟨x, y⟩ hi (List.getElem?_eq_some_iff.2 ⟨hi, hie⟩)
      exact ((atL_empty _).1 this k hk hb.2).elim
noncomputable def termR (gs : List Gl) (ts : List Ti) (xs : List Pl) (t : Int) (ys : List Pl) : Bool × Int := by
  classical
  exact if growB gs ts xs t ys = true then (decide (Terminal gs ts t ys), 0) else (false, 1)
theorem termR_no {gs : List Gl} {ts : List Ti} {xs ys : List Pl} {t : Int} (h : growB gs ts xs t ys = false) : termR gs ts xs t ys = (false, 1) := by
  unfold termR; rw [if_neg (by rw [h]; decide)]
theorem termR_yes {gs : List Gl} {ts : List Ti} {xs ys : List Pl} {t : Int} {s : Nat} (h : growB gs ts xs t ys = true) (hs : s = 0 ↔ Terminal gs ts t ys) : termR gs ts xs t ys = (((s : Int) == 0), 0) := by
  classical
  unfold termR; rw [if_pos h]
  congr 1
  rw [Bool.eq_iff_iff, decide_eq_true_eq, beq_iff_eq, ← hs]; omega
end Go.Proofs.YtcpbppblahpjbaaGreat
/- Walks: whether an assembly is settled, by the program and by the reference. -/



namespace Go.Proofs.YtcpbppblahpjbaaGreat
open Go.RowKit Go.Shelf
set_option linter.unusedSimpArgs false
set_option linter.unusedVariables false
attribute [local go_sem] BelowBy.cell BelowBy.cell_drew stillUpon givesUpon BelowBy.cell_drew2 BelowBy.cell_drew3

noncomputable def settledB (gs : List Gl) (ts : List Ti) (xs : List Pl) (t : Int) (ys : List Pl) : Bool := by
  classical
  exact decide (Terminal gs ts t ys) && decide ((looseN gs ts xs ys t ys.length).length = 0)
theorem settledB_no {gs : List Gl} {ts : List Ti} {xs ys : List Pl} {t : Int} {s : Nat} (hs : s = 0 ↔ Terminal gs ts t ys) (h : ((s : Int) == 0) = false) : settledB gs ts xs t ys = false := by
  classical
  unfold settledB
  rw [decide_eq_false (fun hh => by have := hs.2 hh; subst this; simp at h)]; rfl
theorem settledB_yes {gs : List Gl} {ts : List Ti} {xs ys : List Pl} {t : Int} {s l : Nat} (hs : s = 0 ↔ Terminal gs ts t ys) (h : ((s : Int) == 0) = true) (hl : (looseN gs ts xs ys t ys.length).length = l) : settledB gs ts xs t ys = ((l : Int) == 0) := by
  classical
  unfold settledB
  rw [decide_eq_true (hs.1 (by simpa using h)), hl, Bool.true_and, Bool.eq_iff_iff, decide_eq_true_eq, beq_iff_eq]; omega
noncomputable def settR (gs : List Gl) (ts : List Ti) (xs : List Pl) (t : Int) (ys : List Pl) : Bool × Int := if overI gs ts xs t ys = 0 then (settledB gs ts xs t ys, 0) else (false, overI gs ts xs t ys)
theorem settR_no {gs : List Gl} {ts : List Ti} {xs ys : List Pl} {t r : Int} (h : overI gs ts xs t ys = r) (h0 : ¬ r = 0) : settR gs ts xs t ys = (false, r) := by
  unfold settR; rw [h, if_neg h0]
theorem settR_yes {gs : List Gl} {ts : List Ti} {xs ys : List Pl} {t : Int} {b : Bool} (h : overI gs ts xs t ys = 0) (hb : settledB gs ts xs t ys = b) : settR gs ts xs t ys = (b, 0) := by
  unfold settR; rw [if_pos h, hb]
set_option maxRecDepth 100000 in
set_option maxHeartbeats 2000000 in
theorem l25Settled_any {p pa : Nat} {gs : List Gl} {ts : List Ti} {xs ys : List Pl} {t : Int} {w : World} (h : SysAt w p 0 gs ts xs t) (hV : Valid gs ts xs) (h2 : AsmAt w pa 0 ys) (hVy : Valid gs ts ys) :
    Calls Tryz.prog 86 #[.pointer (some ⟨p, 0, none⟩), .pointer (some ⟨pa, 0, none⟩)] w fun e w' => e = .returned (.bool (settledB gs ts xs t ys)) ∧ Below w.heap.size w w' := by
  
  have hS := Lib.hid h
  have hA := Lib.hid h2
  clear h h2
  go_enter Tryz.func86, Tryz.ntmps86
  go_wp2_with fail
  refine (l08Options_any hS.out hA.out hVy).mono ?_
  rintro e w2 ⟨v, N, cs, rfl, hrow, hiff, hb2⟩
  obtain ⟨A9, c9, hform⟩ := ownsRow_form hrow
  subst hform
  have hiffH := Lib.hid hiff
  clear hiff hrow
  cases hz : ((N : Int) == 0)
  · have hr := Lib.hid (settledB_no (xs := xs) hiffH.out hz)
    go_wp2
    go_ret
    exact ⟨ret_bool hr.out.symm, by repeat (first | with_reducible exact bl_refl _ | with_reducible assumption | with_reducible refine bl_al ?_ _ | with_reducible refine bl_dr ?_ | with_reducible refine bl_tr ?_ (by assumption) | with_reducible refine bl_set ?_ ?_ _ | with_reducible exact Nat.le_refl _ | omega | (simp only [World.size_alloc, World.size_setCell, World.size_drew] at *; omega) | (dsimp only; omega) | (simp; done) | (simp; omega))⟩
  · have hzH := Lib.hid hz
    go_wp2_with fail
    refine (l25Loose_any (hS.out.below hb2) hV (hA.out.below hb2) hVy).mono ?_
    rintro e w3 ⟨v3, rfl, hrow3, hb3⟩
    obtain ⟨A3, c3, hform⟩ := ownsRow_form hrow3
    subst hform
    have hr := Lib.hid (settledB_yes (xs := xs) hiffH.out hzH.out rfl)
    clear hrow3
    go_wp2
    go_ret
    exact ⟨ret_bool hr.out.symm, by repeat (first | with_reducible exact bl_refl _ | with_reducible assumption | with_reducible refine bl_al ?_ _ | with_reducible refine bl_dr ?_ | with_reducible refine bl_tr ?_ (by assumption) | with_reducible refine bl_set ?_ ?_ _ | with_reducible exact Nat.le_refl _ | omega | (simp only [World.size_alloc, World.size_setCell, World.size_drew] at *; omega) | (dsimp only; omega) | (simp; done) | (simp; omega))⟩
set_option maxRecDepth 100000 in
set_option maxHeartbeats 2000000 in
theorem sIsSettled_any (G T A C : Option Addr) (n cg m ct q ca k cc : Nat) (gs : List Gl) (ts : List Ti) (xs ys : List Pl) (t : Int) (w : World) (h : SA w G n T m A q gs ts xs) (h2 : SA w G n T m C k gs ts ys) :
    Calls Tryz.prog 43 #[.agg #[.slice G n cg, .slice T m ct, .slice A q ca, .int .i64 t], .agg #[.slice C k cc]] w (BCodeRes w (settR gs ts xs t ys)) := by
  
  have hS := Lib.hid (show SysAt ((w.alloc (Obj.cells #[.slice G n cg, .slice T m ct, .slice A q ca, .int .i64 t] 43)).alloc (Obj.cells #[.slice C k cc] 41)) w.heap.size 0 gs ts xs t from (h.sysbox cg ct ca t).below (bl_al (bl_refl _) _))
  have hA := Lib.hid (show AsmAt ((w.alloc (Obj.cells #[.slice G n cg, .slice T m ct, .slice A q ca, .int .i64 t] 43)).alloc (Obj.cells #[.slice C k cc] 41)) (w.heap.size + 1) 0 ys from ⟨by simp, C, k, cc, by go_simp, h2.A.below RPl.stable (by repeat (first | with_reducible exact bl_refl _ | with_reducible assumption | with_reducible refine bl_al ?_ _ | with_reducible refine bl_dr ?_ | with_reducible refine bl_tr ?_ (by assumption) | with_reducible refine bl_set ?_ ?_ _ | with_reducible exact Nat.le_refl _ | omega | (simp only [World.size_alloc, World.size_setCell, World.size_drew] at *; omega) | (dsimp only; omega) | (simp; done) | (simp; omega)))⟩)
  have hk : ys.length ≤ 1073741824 := by rw [h2.A.len]; exact h2.q
  clear h h2
  obtain ⟨r, hrE⟩ : ∃ r, overI gs ts xs t ys = r := ⟨_, rfl⟩
  have hrH := Lib.hid hrE
  by_cases hr0 : r = 0
  · subst hr0
    have hg := overI_zero hrE
    have hVx := valid_of (sysOkB_valid (growB_true hg.1).1).1
    have hVy := valid_of (growB_true hg.1).2
    clear hrE hg
    obtain ⟨b, hbE⟩ : ∃ b, settledB gs ts xs t ys = b := ⟨_, rfl⟩
    have hbH := Lib.hid hbE
    have hR := Lib.hid (settR_yes hrH.out hbE)
    clear hbE
    go_enter Tryz.func43, Tryz.ntmps43
    go_wp2_with (first
      | (go_at_call 60; refine (l08Over_at hS.out hA.out hk hrH.out).mono ?_; rintro e w1 ⟨rfl, hb1⟩; have hS1 := Lib.hid (hS.out.below hb1); have hA1 := Lib.hid (hA.out.below hb1))
      | (go_at_call 86; refine (l25Settled_any hS1.out hVx hA1.out hVy).mono ?_; rw [hbH.out]; rintro e w2 ⟨rfl, hb2⟩))
    go_ret2
    exact BCodeRes.of hR.out.symm (by repeat (first | with_reducible exact bl_refl _ | with_reducible assumption | with_reducible refine bl_al ?_ _ | with_reducible refine bl_dr ?_ | with_reducible refine bl_tr ?_ (by assumption) | with_reducible refine bl_set ?_ ?_ _ | with_reducible exact Nat.le_refl _ | omega | (simp only [World.size_alloc, World.size_setCell, World.size_drew] at *; omega) | (dsimp only; omega) | (simp; done) | (simp; omega)))
  · have hr1 : (r != 0) = true := by simpa using hr0
    clear hrE
    go_enter Tryz.func43, Tryz.ntmps43
    go_wp2_with (go_at_call 60; refine (l08Over_at hS.out hA.out hk hrH.out).mono ?_; rintro e w1 ⟨rfl, hb1⟩)
    go_ret2
    exact BCodeRes.of (settR_no hrH.out hr0).symm (by repeat (first | with_reducible exact bl_refl _ | with_reducible assumption | with_reducible refine bl_al ?_ _ | with_reducible refine bl_dr ?_ | with_reducible refine bl_tr ?_ (by assumption) | with_reducible refine bl_set ?_ ?_ _ | with_reducible exact Nat.le_refl _ | omega | (simp only [World.size_alloc, World.size_setCell, World.size_drew] at *; omega) | (dsimp only; omega) | (simp; done) | (simp; omega)))
set_option maxRecDepth 100000 in
set_option maxHeartbeats 2000000 in
theorem settled_any {G T A C : Option Addr} {n cg m ct q ca k cc : Nat} {gs : List Gl} {ts : List Ti} {xs ys : List Pl} {t : Int} {w : World} (h : SA w G n T m A q gs ts xs) (hVx : Valid gs ts xs) (h2 : SA w G n T m C k gs ts ys) (hVy : Valid gs ts ys) :
    Calls Tryz.prog 87 #[.agg #[.slice G n cg, .slice T m ct, .slice A q ca, .int .i64 t], .agg #[.slice C k cc]] w fun e w' => e = .returned (.bool (settledB gs ts xs t ys)) ∧ Below w.heap.size w w' := by
  
  have hS := Lib.hid h
  have hA := Lib.hid h2
  have hkl := h2.A.len
  have hti := Lib.hid (terminal_iff (t := t) hVy)
  clear h h2
  go_enter Tryz.func87, Tryz.ntmps87
  go_wp2_with fail
  refine (newCrystal_any (hS.out.G.below RGl.stable (by repeat (first | with_reducible exact bl_refl _ | with_reducible assumption | with_reducible refine bl_al ?_ _ | with_reducible refine bl_dr ?_ | with_reducible refine bl_tr ?_ (by assumption) | with_reducible refine bl_set ?_ ?_ _ | with_reducible exact Nat.le_refl _ | omega | (simp only [World.size_alloc, World.size_setCell, World.size_drew] at *; omega) | (dsimp only; omega) | (simp; done) | (simp; omega)))) (hS.out.T.below RTi.stable (by repeat (first | with_reducible exact bl_refl _ | with_reducible assumption | with_reducible refine bl_al ?_ _ | with_reducible refine bl_dr ?_ | with_reducible refine bl_tr ?_ (by assumption) | with_reducible refine bl_set ?_ ?_ _ | with_reducible exact Nat.le_refl _ | omega | (simp only [World.size_alloc, World.size_setCell, World.size_drew] at *; omega) | (dsimp only; omega) | (simp; done) | (simp; omega)))) (hA.out.A.below RPl.stable (by repeat (first | with_reducible exact bl_refl _ | with_reducible assumption | with_reducible refine bl_al ?_ _ | with_reducible refine bl_dr ?_ | with_reducible refine bl_tr ?_ (by assumption) | with_reducible refine bl_set ?_ ?_ _ | with_reducible exact Nat.le_refl _ | omega | (simp only [World.size_alloc, World.size_setCell, World.size_drew] at *; omega) | (dsimp only; omega) | (simp; done) | (simp; omega)))) hVy).mono ?_
  rintro e w2 ⟨p, tb, ob, nt, no, M, rfl, hC, hM, hO, hno, hb2⟩
  have c5 := hC.c5
  have lp := hC.lt
  have hOH := Lib.hid hO
  obtain ⟨chb2, fhb2, shb2, thb2⟩ := bcell hb2
  have b0 := shb2 w.heap.size (by go_simp)
  have b1 := shb2 (w.heap.size + 1) (by go_simp)
  clear hC hM hO
  go_wp2_with fail
  refine (count_any lp c5 hOH.out hno).mono ?_
  rintro e w3 ⟨s, rfl, hs, hb3⟩
  rw [hti.out] at hs
  have hsH := Lib.hid hs
  obtain ⟨chb3, fhb3, shb3, thb3⟩ := bcell hb3
  have d0 := shb3 w.heap.size b0
  have d1 := shb3 (w.heap.size + 1) b1
  clear hs c5
  cases hz : ((s : Int) == 0)
  · have hr := Lib.hid (settledB_no (xs := xs) hsH.out hz)
    go_wp2
    go_ret
    exact ⟨ret_bool hr.out.symm, by repeat (first | with_reducible exact bl_refl _ | with_reducible assumption | with_reducible refine bl_al ?_ _ | with_reducible refine bl_dr ?_ | with_reducible refine bl_tr ?_ (by assumption) | with_reducible refine bl_set ?_ ?_ _ | with_reducible exact Nat.le_refl _ | omega | (simp only [World.size_alloc, World.size_setCell, World.size_drew] at *; omega) | (dsimp only; omega) | (simp; done) | (simp; omega))⟩
  · have hzH := Lib.hid hz
    go_wp2_with fail
    refine (loose_any (hS.out.below (by repeat (first | with_reducible exact bl_refl _ | with_reducible assumption | with_reducible refine bl_al ?_ _ | with_reducible refine bl_dr ?_ | with_reducible refine bl_tr ?_ (by assumption) | with_reducible refine bl_set ?_ ?_ _ | with_reducible exact Nat.le_refl _ | omega | (simp only [World.size_alloc, World.size_setCell, World.size_drew] at *; omega) | (dsimp only; omega) | (simp; done) | (simp; omega)))) hVx (hA.out.below (by repeat (first | with_reducible exact bl_refl _ | with_reducible assumption | with_reducible refine bl_al ?_ _ | with_reducible refine bl_dr ?_ | with_reducible refine bl_tr ?_ (by assumption) | with_reducible refine bl_set ?_ ?_ _ | with_reducible exact Nat.le_refl _ | omega | (simp only [World.size_alloc, World.size_setCell, World.size_drew] at *; omega) | (dsimp only; omega) | (simp; done) | (simp; omega)))) hVy).mono ?_
    rw [← hkl]
    rintro e w4 ⟨v3, rfl, hrow3, hb4⟩
    obtain ⟨A3, c3, hform⟩ := ownsRow_form hrow3
    subst hform
    have hr := Lib.hid (settledB_yes (xs := xs) hsH.out hzH.out rfl)
    clear hrow3
    go_wp2
    go_ret
    exact ⟨ret_bool (by have := hr.out.symm; rw [hkl] at this; exact this), by repeat (first | with_reducible exact bl_refl _ | with_reducible assumption | with_reducible refine bl_al ?_ _ | with_reducible refine bl_dr ?_ | with_reducible refine bl_tr ?_ (by assumption) | with_reducible refine bl_set ?_ ?_ _ | with_reducible exact Nat.le_refl _ | omega | (simp only [World.size_alloc, World.size_setCell, World.size_drew] at *; omega) | (dsimp only; omega) | (simp; done) | (simp; omega))⟩
set_option maxRecDepth 100000 in
set_option maxHeartbeats 2000000 in
theorem IsSettled_any (G T A C : Option Addr) (n cg m ct q ca k cc : Nat) (gs : List Gl) (ts : List Ti) (xs ys : List Pl) (t : Int) (w : World) (h : SA w G n T m A q gs ts xs) (h2 : SA w G n T m C k gs ts ys) :
    Calls Tryz.prog 44 #[.agg #[.slice G n cg, .slice T m ct, .slice A q ca, .int .i64 t], .agg #[.slice C k cc]] w (BCodeRes w (settR gs ts xs t ys)) := by
  
  have hS := Lib.hid h
  have hA := Lib.hid h2
  clear h h2
  obtain ⟨r, hrE⟩ : ∃ r, overI gs ts xs t ys = r := ⟨_, rfl⟩
  have hrH := Lib.hid hrE
  by_cases hr0 : r = 0
  · subst hr0
    have hg := overI_zero hrE
    have hVx := valid_of (sysOkB_valid (growB_true hg.1).1).1
    have hVy := valid_of (growB_true hg.1).2
    clear hrE hg
    obtain ⟨b, hbE⟩ : ∃ b, settledB gs ts xs t ys = b := ⟨_, rfl⟩
    have hbH := Lib.hid hbE
    have hR := Lib.hid (settR_yes hrH.out hbE)
    clear hbE
    go_enter Tryz.func44, Tryz.ntmps44
    go_wp2_with (first
      | (go_at_call 65; refine (insideCode_at (hS.out.below (by repeat (first | with_reducible exact bl_refl _ | with_reducible assumption | with_reducible refine bl_al ?_ _ | with_reducible refine bl_dr ?_ | with_reducible refine bl_tr ?_ (by assumption) | with_reducible refine bl_set ?_ ?_ _ | with_reducible exact Nat.le_refl _ | omega | (simp only [World.size_alloc, World.size_setCell, World.size_drew] at *; omega) | (dsimp only; omega) | (simp; done) | (simp; omega)))) (hA.out.below (by repeat (first | with_reducible exact bl_refl _ | with_reducible assumption | with_reducible refine bl_al ?_ _ | with_reducible refine bl_dr ?_ | with_reducible refine bl_tr ?_ (by assumption) | with_reducible refine bl_set ?_ ?_ _ | with_reducible exact Nat.le_refl _ | omega | (simp only [World.size_alloc, World.size_setCell, World.size_drew] at *; omega) | (dsimp only; omega) | (simp; done) | (simp; omega)))) hrH.out).mono ?_; rintro e w1 ⟨rfl, hb1⟩; obtain ⟨chb1, fhb1, shb1, thb1⟩ := bcell hb1; (have b0 := shb1 w.heap.size (by go_simp)); (have b1 := shb1 (w.heap.size + 1) (by go_simp)))
      | (go_at_call 87; refine (settled_any (hS.out.below (by repeat (first | with_reducible exact bl_refl _ | with_reducible assumption | with_reducible refine bl_al ?_ _ | with_reducible refine bl_dr ?_ | with_reducible refine bl_tr ?_ (by assumption) | with_reducible refine bl_set ?_ ?_ _ | with_reducible exact Nat.le_refl _ | omega | (simp only [World.size_alloc, World.size_setCell, World.size_drew] at *; omega) | (dsimp only; omega) | (simp; done) | (simp; omega)))) hVx (hA.out.below (by repeat (first | with_reducible exact bl_refl _ | with_reducible assumption | with_reducible refine bl_al ?_ _ | with_reducible refine bl_dr ?_ | with_reducible refine bl_tr ?_ (by assumption) | with_reducible refine bl_set ?_ ?_ _ | with_reducible exact Nat.le_refl _ | omega | (simp only [World.size_alloc, World.size_setCell, World.size_drew] at *; omega) | (dsimp only; omega) | (simp; done) | (simp; omega)))) hVy).mono ?_; rw [hbH.out]; rintro e w2 ⟨rfl, hb2⟩))
    go_ret2
    exact BCodeRes.of hR.out.symm (by repeat (first | with_reducible exact bl_refl _ | with_reducible assumption | with_reducible refine bl_al ?_ _ | with_reducible refine bl_dr ?_ | with_reducible refine bl_tr ?_ (by assumption) | with_reducible refine bl_set ?_ ?_ _ | with_reducible exact Nat.le_refl _ | omega | (simp only [World.size_alloc, World.size_setCell, World.size_drew] at *; omega) | (dsimp only; omega) | (simp; done) | (simp; omega)))
  · have hr1 : (r != 0) = true := by simpa using hr0
    clear hrE
    go_enter Tryz.func44, Tryz.ntmps44
    go_wp2_with (go_at_call 65; refine (insideCode_at (hS.out.below (by repeat (first | with_reducible exact bl_refl _ | with_reducible assumption | with_reducible refine bl_al ?_ _ | with_reducible refine bl_dr ?_ | with_reducible refine bl_tr ?_ (by assumption) | with_reducible refine bl_set ?_ ?_ _ | with_reducible exact Nat.le_refl _ | omega | (simp only [World.size_alloc, World.size_setCell, World.size_drew] at *; omega) | (dsimp only; omega) | (simp; done) | (simp; omega)))) (hA.out.below (by repeat (first | with_reducible exact bl_refl _ | with_reducible assumption | with_reducible refine bl_al ?_ _ | with_reducible refine bl_dr ?_ | with_reducible refine bl_tr ?_ (by assumption) | with_reducible refine bl_set ?_ ?_ _ | with_reducible exact Nat.le_refl _ | omega | (simp only [World.size_alloc, World.size_setCell, World.size_drew] at *; omega) | (dsimp only; omega) | (simp; done) | (simp; omega)))) hrH.out).mono ?_; rintro e w1 ⟨rfl, hb1⟩)
    go_ret2
    exact BCodeRes.of (settR_no hrH.out hr0).symm (by repeat (first | with_reducible exact bl_refl _ | with_reducible assumption | with_reducible refine bl_al ?_ _ | with_reducible refine bl_dr ?_ | with_reducible refine bl_tr ?_ (by assumption) | with_reducible refine bl_set ?_ ?_ _ | with_reducible exact Nat.le_refl _ | omega | (simp only [World.size_alloc, World.size_setCell, World.size_drew] at *; omega) | (dsimp only; omega) | (simp; done) | (simp; omega)))
end Go.Proofs.YtcpbppblahpjbaaGreat
