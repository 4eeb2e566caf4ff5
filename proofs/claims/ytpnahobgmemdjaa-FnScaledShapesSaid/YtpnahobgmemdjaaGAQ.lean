import Derived.Test.YtpnahobgmemdjaaGAP
import Derived.Test.YtpnahobgmemdjaaGAK
import Derived.Test.YtpnahobgmemdjaaGAG
import Derived.Test.YtpnahobgmemdjaaGAL
import Derived.Test.YtpnahobgmemdjaaGAN
import Derived.Test.YtpnahobgmemdjaaGAF
set_option linter.unusedSimpArgs false
set_option linter.unusedVariables false
/- Plain: the points of a rectangle in order; the points that a shape surrounds. -/

namespace Go.Proofs.Ytpnahobgmemdjaa
open Go.RowKit Go.Lib Go.Sort
/-- the first i points of a row -/
def rowP (lx y : Int) (i : Nat) : List Pt := (List.range i).map fun (k : Nat) => ⟨lx + (k : Int), y⟩
/-- the first j rows of a rectangle -/
def rectP (lx ly : Int) (W : Nat) : Nat → List Pt
  | 0 => []
  | j + 1 => rectP lx ly W j ++ rowP lx (ly + (j : Int)) W
theorem rowP_succ (lx y : Int) (i : Nat) : rowP lx y (i + 1) = rowP lx y i ++ [⟨lx + (i : Int), y⟩] := by
  unfold rowP; rw [List.range_succ, List.map_append]; rfl
theorem rowP_len (lx y : Int) (i : Nat) : (rowP lx y i).length = i := by simp [rowP]
theorem rowP_zero (lx y : Int) : rowP lx y 0 = [] := rfl
theorem rectP_len (lx ly : Int) (W : Nat) : ∀ j, (rectP lx ly W j).length = j * W
  | 0 => by simp [rectP]
  | j + 1 => by simp only [rectP]; rw [List.length_append, rectP_len lx ly W j, rowP_len, Nat.add_mul]; omega
theorem rowP_mem {lx y : Int} {i : Nat} {p : Pt} : p ∈ rowP lx y i ↔ p.y = y ∧ lx ≤ p.x ∧ p.x < lx + (i : Int) := by
  unfold rowP
  rw [List.mem_map]
  constructor
  · rintro ⟨k, hk, rfl⟩
    have := List.mem_range.1 hk
    exact ⟨rfl, by show lx ≤ lx + (k : Int); omega, by show lx + (k : Int) < _; omega⟩
  · rintro ⟨rfl, h1, h2⟩
    refine ⟨(p.x - lx).toNat, List.mem_range.2 (by omega), ?_⟩
    have : lx + ((p.x - lx).toNat : Int) = p.x := by omega
    cases p
    simp_all
theorem rectP_mem {lx ly : Int} {W : Nat} {p : Pt} : ∀ {j : Nat}, p ∈ rectP lx ly W j ↔ (ly ≤ p.y ∧ p.y < ly + (j : Int)) ∧ lx ≤ p.x ∧ p.x < lx + (W : Int)
  | 0 => by simp [rectP]; omega
  | j + 1 => by
    simp only [rectP]
    rw [List.mem_append, rectP_mem, rowP_mem]
    constructor
    · rintro (h | h)
      · exact ⟨⟨h.1.1, by omega⟩, h.2⟩
      · exact ⟨⟨by omega, by omega⟩, h.2⟩
    · rintro ⟨⟨h1, h2⟩, h3⟩
      by_cases h : p.y = ly + (j : Int)
      · exact .inr ⟨h, h3⟩
      · exact .inl ⟨⟨h1, by omega⟩, h3⟩
theorem rowP_sorted (lx y : Int) (i : Nat) : SortS (rowP lx y i) := by
  unfold SortS rowP
  rw [List.pairwise_map]
  refine List.Pairwise.imp ?_ (List.pairwise_lt_range (n := i))
  intro a b hab
  rw [ltP_iff]
  exact .inr ⟨rfl, by show lx + (a : Int) < lx + (b : Int); omega⟩
theorem rectP_sorted (lx ly : Int) (W : Nat) : ∀ j, SortS (rectP lx ly W j)
  | 0 => List.Pairwise.nil
  | j + 1 => by
    simp only [rectP]
    unfold SortS
    rw [List.pairwise_append]
    refine ⟨rectP_sorted lx ly W j, rowP_sorted _ _ _, fun a ha b hb => ?_⟩
    rw [rectP_mem] at ha
    rw [rowP_mem] at hb
    rw [ltP_iff]
    exact .inl (by omega)
theorem Shp.of_sorted {L : List Pt} (h : SortS L) (hp : ∀ p ∈ L, (-60 ≤ p.x ∧ p.x ≤ 60) ∧ (-60 ≤ p.y ∧ p.y ≤ 60)) : Shp L :=
  ⟨fun k e he => hp e (List.mem_of_getElem? he), fun i j d e hij hd he => h.get hij hd he⟩
theorem SortS.filter {L : List Pt} (h : SortS L) (f : Pt → Bool) : SortS (L.filter f) := List.Pairwise.sublist List.filter_sublist h
/-- no part is empty -/
theorem partsP_pos {ps : List Pt} {l : List Pt} (h : l ∈ partsP ps) : 0 < l.length := by
  obtain ⟨i, hi⟩ := List.mem_iff_getElem?.1 h
  unfold partsP partsN namesL at hi
  rw [List.map_map, List.getElem?_map] at hi
  have hil : i < (allP (nbP ps) ps.length ps.length).2.length := by
    apply Classical.byContradiction
    intro hh
    rw [List.getElem?_eq_none (by simpa using hh)] at hi
    cases hi
  rw [List.getElem?_range hil] at hi
  simp only [Option.map_some, Option.some.injEq] at hi
  subst hi
  obtain ⟨q, hq⟩ : ∃ q, (allP (nbP ps) ps.length ps.length).2[i]? = some q := ⟨_, List.getElem?_eq_getElem hil⟩
  obtain ⟨h1, h2, h3⟩ := allP_mem _ i q hq
  have hne : ∀ k, ∀ l ∈ (allP (nbP ps) ps.length k).2, l ≠ [] := by
    intro k
    induction k with
    | zero => intro l hl; simp [allP] at hl
    | succ k ih =>
      intro l hl
      simp only [allP] at hl
      split at hl
      · rcases List.mem_append.1 hl with hl | hl
        · exact ih l hl
        · simp at hl
          subst hl
          obtain ⟨m, hm⟩ := visS_more (nb := nbP ps) (c := (allP (nbP ps) ps.length k).2.length + 1) (st := ([k], (allP (nbP ps) ps.length k).1.set k ((allP (nbP ps) ps.length k).2.length + 1))) ps.length
          rw [hm]
          simp
      · exact ih l hl
  cases hq' : q with
  | nil => exact absurd hq' (hne _ q (List.mem_of_getElem? hq))
  | cons v q2 =>
    have hv : v ∈ q := by rw [hq']; simp
    have hm := nameL_mem.2 ⟨h2 v hv, (h3 v).1 hv⟩
    show 0 < (ptsAt ps (nameL _ i ps.length)).length
    rw [ptsAt_len]
    exact List.length_pos_of_mem hm
theorem partsP_mem {ps : List Pt} {l : List Pt} (h : l ∈ partsP ps) : (∀ p ∈ l, p ∈ ps) ∧ l.length ≤ ps.length := by
  obtain ⟨i, hi⟩ := List.mem_iff_getElem?.1 h
  unfold partsP at hi
  rw [List.getElem?_map, Option.map_eq_some_iff] at hi
  obtain ⟨q, hq, rfl⟩ := hi
  have hlt := partsN_lt hq
  refine ⟨fun p hp => ?_, by rw [ptsAt_len]; exact partsN_each hq⟩
  unfold ptsAt at hp
  obtain ⟨v, hv, rfl⟩ := List.mem_map.1 hp
  obtain ⟨e, he⟩ : ∃ e, ps[v]? = some e := ⟨_, List.getElem?_eq_getElem (hlt v hv)⟩
  rw [ptAt_of he]
  exact List.mem_of_getElem? he
end Go.Proofs.Ytpnahobgmemdjaa
/- Walks: the points of a rectangle, the program; a point of a shape looked for, the reference. -/


namespace Go.Proofs.Ytpnahobgmemdjaa
open Go.RowKit Go.Shelf
attribute [local go_sem] BelowBy.cell BelowBy.cell_drew stillUpon givesUpon

set_option maxRecDepth 100000 in
set_option maxHeartbeats 4000000 in
theorem rectangle_any (lx ly hx hy : Int) (W H : Nat) (w : World) (hW : hx + 1 = lx + (W : Int)) (hH : hy + 1 = ly + (H : Int)) (hW1 : W ≤ 200) (hH1 : H ≤ 200) (hlx : -1000 ≤ lx ∧ lx ≤ 1000) (hly : -1000 ≤ ly ∧ ly ≤ 1000) :
    Calls Try.prog 75 #[.agg #[.int .i64 lx, .int .i64 ly], .agg #[.int .i64 hx, .int .i64 hy]] w fun e w' => ∃ v, e = .returned v ∧ w'.ownsRow w.heap.size 34 2 v (H * W) (ptCells (rectP lx ly W H)) ∧ Below w.heap.size w w' := by
  obtain ⟨i0, hi, hz0, hz1, hz2⟩ := info_parts infoPtQ
  have hWH := Lib.hid hW
  have hHH := Lib.hid hH
  have hhx : hx ≤ 1200 := by omega
  have hhy : hy ≤ 1200 := by omega
  clear hW hH
  go_enter Try.func75, Try.ntmps75
  go_wp2
  have b0 : ((w.alloc (Obj.cells #[.int .i64 lx, .int .i64 ly] 34)).alloc (Obj.cells #[.int .i64 hx, .int .i64 hy] 34)).cell? ⟨w.heap.size, 0, none⟩ = some (.int .i64 lx) := by go_simp
  have b1 : ((w.alloc (Obj.cells #[.int .i64 lx, .int .i64 ly] 34)).alloc (Obj.cells #[.int .i64 hx, .int .i64 hy] 34)).cell? ⟨w.heap.size + 1, 0, none⟩ = some (.int .i64 hx) := by go_simp
  have b2 : ((w.alloc (Obj.cells #[.int .i64 lx, .int .i64 ly] 34)).alloc (Obj.cells #[.int .i64 hx, .int .i64 hy] 34)).cell? ⟨w.heap.size + 1, 1, none⟩ = some (.int .i64 hy) := by go_simp
  have hs2 : ((w.alloc (Obj.cells #[.int .i64 lx, .int .i64 ly] 34)).alloc (Obj.cells #[.int .i64 hx, .int .i64 hy] 34)).heap.size = w.heap.size + 2 := by simp
  have hbW : Below w.heap.size w ((w.alloc (Obj.cells #[.int .i64 lx, .int .i64 ly] 34)).alloc (Obj.cells #[.int .i64 hx, .int .i64 hy] 34)) := bl_al (bl_al (bl_refl _) _) _
  obtain ⟨W2, hW2⟩ : ∃ W2, ((w.alloc (Obj.cells #[.int .i64 lx, .int .i64 ly] 34)).alloc (Obj.cells #[.int .i64 hx, .int .i64 hy] 34)) = W2 := ⟨_, rfl⟩
  rw [hW2] at b0 b1 b2 hs2 hbW ⊢
  have hl1 : w.heap.size + 1 < W2.heap.size := by omega
  have hl0 : w.heap.size < W2.heap.size := by omega
  have hs2H := Lib.hid hs2
  clear hW2 hs2
  go_loopg [5, 6] H (fun g v y wr => ∃ (j : Nat), j + g = H ∧ y = .int .i64 (ly + (j : Int)) ∧ Hid (wr.ownsRow W2.heap.size 34 2 v (j * W) (ptCells (rectP lx ly W j))) ∧ Hid (Below W2.heap.size W2 wr))
  case atStart => exact ⟨0, by omega, by go_num, Lib.hid (by simpa [rectP, ptCells] using World.ownsRow_nil W2 W2.heap.size 34 2), Lib.hid (bl_refl _)⟩
  case round =>
    obtain ⟨j, hj, rfl, hO, hbw⟩ := hrel
    have hszl := hbw.out.size
    have c2 := (hbw.out.cell (p := ⟨w.heap.size + 1, 1, none⟩) hl1).trans b2
    have c0 := (hbw.out.cell (p := ⟨w.heap.size, 0, none⟩) hl0).trans b0
    have l1 : w.heap.size + 1 < wr.heap.size := by omega
    have l0 : w.heap.size < wr.heap.size := by omega
    by_cases hjH : j < H
    · have hle : ly + (j : Int) ≤ hy := by have := hHH.out; omega
      obtain ⟨y, hy'⟩ : ∃ y, ly + (j : Int) = y := ⟨_, rfl⟩
      have hyr : -1000 ≤ y ∧ y ≤ 1200 := by omega
      rw [hy']
      rw [hy'] at hle
      have hyH := Lib.hid hy'
      have hmul := Lib.hid (show (j + 1) * W = j * W + W from Nat.succ_mul j W)
      have hmb : j * W ≤ 40000 := Nat.le_trans (Nat.mul_le_mul (show j ≤ 200 by omega) hW1) (by decide)
      obtain ⟨N, hN⟩ : ∃ N, j * W = N := ⟨_, rfl⟩
      rw [hN] at hO hmul hmb
      clear hy' hN
      obtain ⟨wo, hwo⟩ : ∃ wo : World, wo = wr := ⟨_, rfl⟩
      subst hwo
      go_wp2
      go_loopg [5, 7] W (fun g v x wz => ∃ (i : Nat), i + g = W ∧ x = .int .i64 (lx + (i : Int)) ∧ Hid (wz.ownsRow W2.heap.size 34 2 v (N + i) (ptCells (rectP lx ly W j ++ rowP lx y i))) ∧ Hid (Below W2.heap.size W2 wz))
      case atStart => exact ⟨0, by omega, by go_num, Lib.hid (by simpa [rowP_zero] using hO.out), hbw⟩
      case round =>
        clear c0 c2 l0 l1
        obtain ⟨i, hi', rfl, hR, hbz⟩ := hrel
        have hszz := hbz.out.size
        have c1 := (hbz.out.cell (p := ⟨w.heap.size + 1, 0, none⟩) hl1).trans b1
        have l1 : w.heap.size + 1 < wr.heap.size := by omega
        obtain ⟨A1, cp, rfl⟩ := ownsRow_form hR.out
        by_cases hiW : i < W
        · have hle2 : lx + (i : Int) ≤ hx := by have := hWH.out; omega
          obtain ⟨x, hx'⟩ : ∃ x, lx + (i : Int) = x := ⟨_, rfl⟩
          have hxr : -1000 ≤ x ∧ x ≤ 1200 := by omega
          have hsn := Lib.hid (show rectP lx ly W j ++ rowP lx y (i + 1) = (rectP lx ly W j ++ rowP lx y i) ++ [⟨x, y⟩] by rw [rowP_succ, hx', List.append_assoc])
          rw [hx']
          rw [hx'] at hle2
          have hxH := Lib.hid hx'
          clear hx'
          go_wp2_with (at_builtin; refine wpList_append_own_at _ rfl _ _ 42 rfl W2.heap.size 34 i0 (.agg #[.int .i64 0, .int .i64 0]) 2 16 Try.underlying42 hi hz0 hz1 hz2 rfl (by decide) (.slice A1 (N + i) cp) (N + i) (ptCells (rectP lx ly W j ++ rowP lx y i)) rfl (hR.out.alloc _) ⟨wr.heap.size, 0, none⟩ 1 1 [.int .i64 x, .int .i64 y] rfl rfl (cell_pt2 _ _ _ _) (fun x hx => by simp at hx; rcases hx with rfl | rfl <;> rfl) (by unfold maxLen; omega) (by omega) (by simp; omega) ?_; intro v5 w5 hown5 hgrow5 _ hat5; have hown5H := Lib.hid hown5; have hgrow5H := Lib.hid hgrow5; clear hown5 hgrow5 hat5)
          go_roundg (W - (i + 1))
          case measure => omega
          case rel =>
            refine ⟨i + 1, by omega, by rw [← hxH.out]; go_num, Lib.hid ?_, Lib.hid ?_⟩
            · rw [hsn.out, ptCells_snoc]; exact hown5H.out
            · exact hbz.out.trans (below_app hszz (fun g e => (hR.out.lt g e).1) hgrow5H.out)
        · obtain rfl : i = W := by omega
          have hle2 : ¬ lx + (i : Int) ≤ hx := by have := hWH.out; omega
          go_wp2
          go_roundg (H - (j + 1))
          case measure => omega
          case rel =>
            refine ⟨j + 1, by omega, by rw [← hyH.out]; go_num, Lib.hid ?_, hbz⟩
            simp only [rectP]
            rw [hmul.out, hyH.out]
            exact hR.out
    · obtain rfl : j = H := by omega
      have hle : ¬ ly + (j : Int) ≤ hy := by have := hHH.out; omega
      go_wp2
      go_ret
      exact ⟨_, rfl, ownsRow_baseQ hO.out (by have := hs2H.out; omega), hbW.trans (hbw.out.mono (by omega))⟩
end Go.Proofs.Ytpnahobgmemdjaa
/- A set and an assembly that came in, and what the functions give on them. -/





namespace Go.Proofs.Ytpnahobgmemdjaa
open Go.RowKit Go.Shelf
attribute [local go_sem] BelowBy.cell BelowBy.cell_drew stillUpon givesUpon

/-- a set and an assembly that came in -/
structure SA (w : World) (G : Option Addr) (n : Nat) (T : Option Addr) (m : Nat) (A : Option Addr) (q : Nat) (gs : List Gl) (ts : List Ti) (xs : List Pl) : Prop where
  G : RdSl 2 RGl w G n gs
  T : RdSl 2 RTi w T m ts
  A : RdSl 3 RPl w A q xs
  gm : n ≤ 1073741824
  tm : m ≤ 1073741824
  q : q ≤ 1073741824
  gn : ∀ (k : Nat) (e : Gl), gs[k]? = some e → e.name.size ≤ 9223372036854775807
  tn : ∀ (k : Nat) (e : Ti), ts[k]? = some e → e.name.size ≤ 9223372036854775807 ∧ e.sides.length ≤ 9223372036854775807
section
variable {w w' : World} {G T A : Option Addr} {n cg m ct q ca : Nat} {gs : List Gl} {ts : List Ti} {xs : List Pl}
theorem SA.below (h : SA w G n T m A q gs ts xs) (hb : Below w.heap.size w w') : SA w' G n T m A q gs ts xs :=
  ⟨h.G.below RGl.stable hb, h.T.below RTi.stable hb, h.A.below RPl.stable hb, h.gm, h.tm, h.q, h.gn, h.tn⟩
/-- the reference looks at them through pointers -/
structure SAt (w : World) (p op pa opa : Nat) (gs : List Gl) (ts : List Ti) (xs : List Pl) : Prop where
  s : SetAt w p op gs ts
  a : AsmAt w pa opa xs
  q : xs.length ≤ 1073741824
  gm : gs.length ≤ 1073741824
  tm : ts.length ≤ 1073741824
  gn : ∀ (k : Nat) (e : Gl), gs[k]? = some e → e.name.size ≤ 9223372036854775807
  tn : ∀ (k : Nat) (e : Ti), ts[k]? = some e → e.name.size ≤ 9223372036854775807 ∧ e.sides.length ≤ 9223372036854775807
theorem SAt.below {op opa : Nat} {p pa : Nat} (h : SAt w p op pa opa gs ts xs) (hb : Below w.heap.size w w') : SAt w' p op pa opa gs ts xs :=
  ⟨h.s.below hb, h.a.below hb, h.q, h.gm, h.tm, h.gn, h.tn⟩
end
theorem codeB_true : codeB true = 0 := rfl
theorem codeB_false : codeB false = 1 := rfl
theorem ownsRow_base {w : World} {base base' : Nat} {e : TypeId} {size : Nat} {v : Value} {n : Nat} {xs : List Value} (h : w.ownsRow base e size v n xs) (hb : base' ≤ base) : w.ownsRow base' e size v n xs :=
  ⟨h.1, h.2.imp id (fun ⟨g, cap, cur, h1, h2, h3⟩ => ⟨g, cap, cur, h1, Nat.le_trans hb h2, h3⟩)⟩
end Go.Proofs.Ytpnahobgmemdjaa
