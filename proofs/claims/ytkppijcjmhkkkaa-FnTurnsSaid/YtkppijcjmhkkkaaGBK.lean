import Derived.Test.YtkppijcjmhkkkaaGBJ
import Derived.Test.YtkppijcjmhkkkaaGBC
import Derived.Test.YtkppijcjmhkkkaaGBE
import Derived.Test.YtkppijcjmhkkkaaGAS
import Derived.Test.YtkppijcjmhkkkaaGAM
set_option linter.unusedSimpArgs false
set_option linter.unusedVariables false
/- Plain: the perimeter of a scaled shape. -/

namespace Go.Proofs.Ytkppijcjmhkkkaa
open Go.RowKit
set_option linter.unusedSectionVars false
/-- a side of a point that is open -/
def oD (ps : List Pt) (p : Pt) (d : Nat) : Nat := if nbr p d ∈ ps then 0 else 1
def outN (ps : List Pt) (p : Pt) : Nat := oD ps p 0 + oD ps p 1 + oD ps p 2 + oD ps p 3
def perim (ps : List Pt) : Nat := (ps.map (outN ps)).sum
theorem sum_flatMap {α β : Type} (f : α → List β) (g : β → Nat) : ∀ l : List α, ((l.flatMap f).map g).sum = (l.map fun a => ((f a).map g).sum).sum
  | [] => rfl
  | a :: l => by rw [List.flatMap_cons, List.map_append, List.sum_append_nat, sum_flatMap f g l, List.map_cons, List.sum_cons]
theorem sum_mul {α : Type} (f : α → Nat) (k : Nat) : ∀ l : List α, (l.map fun a => k * f a).sum = k * (l.map f).sum
  | [] => by simp
  | a :: l => by rw [List.map_cons, List.sum_cons, sum_mul f k l, List.map_cons, List.sum_cons, Nat.mul_add]
theorem sum_congr {α : Type} {f g : α → Nat} : ∀ {l : List α}, (∀ a ∈ l, f a = g a) → (l.map f).sum = (l.map g).sum
  | [], _ => rfl
  | a :: l, h => by rw [List.map_cons, List.sum_cons, List.map_cons, List.sum_cons, h a (List.mem_cons_self ..), sum_congr fun x hx => h x (List.mem_cons_of_mem _ hx)]
theorem range_pts (ps : List Pt) : (List.range ps.length).map (ptAt ps) = ps := by
  apply List.ext_getElem?
  intro i
  rw [List.getElem?_map]
  rcases Nat.lt_or_ge i ps.length with h | h
  · rw [List.getElem?_range h, List.getElem?_eq_getElem h, Option.map_some, ptAt_of (List.getElem?_eq_getElem h)]
  · rw [List.getElem?_eq_none (by simpa using h), List.getElem?_eq_none h]; rfl
section
variable {k : Nat} (hk : 1 ≤ k ∧ k ≤ 3)
include hk
theorem dv_nb (p : Pt) {i j d : Nat} (hi : i < k) (hj : j < k) (hd : d < 4) : dvK k (nbr (offK k p i j) d) = if (d = 0 ∧ j + 1 < k) ∨ (d = 1 ∧ i + 1 < k) ∨ (d = 2 ∧ 0 < j) ∨ (d = 3 ∧ 0 < i) then p else nbr p d := by
  have h4 : d = 0 ∨ d = 1 ∨ d = 2 ∨ d = 3 := by omega
  cases p with
  | mk x y =>
    rcases k123 hk with rfl | rfl | rfl <;> rcases h4 with rfl | rfl | rfl | rfl <;> simp [dvK, nbr, offK, stepX, stepY] <;> (try split) <;> (try simp) <;> omega
theorem oD_off {ps : List Pt} {p : Pt} (hp : p ∈ ps) {i j d : Nat} (hi : i < k) (hj : j < k) (hd : d < 4) : oD (scS k ps) (offK k p i j) d = if (d = 0 ∧ j + 1 < k) ∨ (d = 1 ∧ i + 1 < k) ∨ (d = 2 ∧ 0 < j) ∨ (d = 3 ∧ 0 < i) then 0 else oD ps p d := by
  have h := dv_nb hk p hi hj hd
  have h2 : nbr (offK k p i j) d ∈ scS k ps ↔ dvK k (nbr (offK k p i j) d) ∈ ps := scS_iff hk
  rw [h] at h2
  unfold oD
  split at h2
  · rename_i hc
    rw [if_pos hc, if_pos (h2.2 hp)]
  · rename_i hc
    rw [if_neg hc]
    by_cases hm : nbr p d ∈ ps
    · rw [if_pos hm, if_pos (h2.2 hm)]
    · rw [if_neg hm, if_neg (fun x => hm (h2.1 x))]
theorem blk_out {ps : List Pt} {p : Pt} (hp : p ∈ ps) : ((blkS k p k).map (outN (scS k ps))).sum = k * outN ps p := by
  have ho : ∀ i j, i < k → j < k → outN (scS k ps) ⟨(k : Int) * p.x + (i : Int), (k : Int) * p.y + (j : Int)⟩ = (if j + 1 < k then 0 else oD ps p 0) + (if i + 1 < k then 0 else oD ps p 1) + (if 0 < j then 0 else oD ps p 2) + (if 0 < i then 0 else oD ps p 3) := fun i j hi hj => by
    have e0 := oD_off hk hp hi hj (show 0 < 4 by omega)
    have e1 := oD_off hk hp hi hj (show 1 < 4 by omega)
    have e2 := oD_off hk hp hi hj (show 2 < 4 by omega)
    have e3 := oD_off hk hp hi hj (show 3 < 4 by omega)
    unfold offK at e0 e1 e2 e3
    unfold outN
    rw [e0, e1, e2, e3]
    simp
  unfold blkS
  rw [sum_flatMap]
  have hcol : ∀ i ∈ List.range k, ((colP k p i k).map (outN (scS k ps))).sum = ((List.range k).map fun j => (if j + 1 < k then 0 else oD ps p 0) + (if i + 1 < k then 0 else oD ps p 1) + (if 0 < j then 0 else oD ps p 2) + (if 0 < i then 0 else oD ps p 3)).sum := fun i hi => by
    unfold colP
    rw [List.map_map]
    exact sum_congr fun j hj => ho i j (List.mem_range.1 hi) (List.mem_range.1 hj)
  rw [sum_congr hcol]
  unfold outN
  rcases k123 hk with rfl | rfl | rfl <;> simp [List.range_succ] <;> omega
theorem sc_perim {ps : List Pt} (hS : SortS ps) : perim (scS k ps) = k * perim ps := by
  have h1 : ((scS k ps).map (outN (scS k ps))).sum = ((scalP k ps).map (outN (scS k ps))).sum := ((sc_perm hk hS).map _).sum_nat
  unfold perim
  rw [h1]
  unfold scalP scalN
  rw [sum_flatMap, sum_congr (g := fun v => k * outN ps (ptAt ps v)) fun v hv => blk_out hk (by
    have hv' := List.mem_range.1 hv
    rw [ptAt_of (List.getElem?_eq_getElem hv')]
    exact List.getElem_mem hv')]
  rw [sum_mul (fun v => outN ps (ptAt ps v)) k]
  congr 2
  have h2 := congrArg (List.map (outN ps)) (range_pts ps)
  rw [List.map_map] at h2
  exact h2
end
end Go.Proofs.Ytkppijcjmhkkkaa
/- Walk: the perimeter of a shape. -/



namespace Go.Proofs.Ytkppijcjmhkkkaa
open Go.RowKit
attribute [local go_sem] BelowBy.cell BelowBy.cell_drew stillUpon givesUpon

def outQ (ps : List Pt) (e : Pt) : Nat → Nat
  | 0 => 0
  | q + 1 => outQ ps e q + oD ps e q
theorem outQ_le (ps : List Pt) (e : Pt) : ∀ q, outQ ps e q ≤ q
  | 0 => Nat.le_refl _
  | q + 1 => by
    have := outQ_le ps e q
    have h2 : oD ps e q ≤ 1 := by unfold oD; split <;> omega
    simp only [outQ]; omega
def outS (ps : List Pt) (m : Nat) : Nat := ((ps.take m).map (outN ps)).sum
theorem outS_succ {ps : List Pt} {m : Nat} {e : Pt} (h : ps[m]? = some e) : outS ps (m + 1) = outS ps m + outQ ps e 4 := by
  unfold outS
  rw [List.take_add_one, h, List.map_append, List.sum_append_nat]
  simp [outQ, outN]
set_option maxRecDepth 100000 in
set_option maxHeartbeats 4000000 in
theorem PerimeterOf_any {A : Option Addr} {n c v : Nat} {ps : List Pt} {w : World} (h : RdSl 2 RPt w A n ps) (hsh : shapeB ps = true) (hv : perim ps = v) :
    Calls Try.prog 12 #[.slice A n c] w fun e w' => e = .returned (.tuple #[.int .i64 (v : Int), .int .i64 0]) ∧ Below w.heap.size w w' := by
  obtain ⟨hShp, h1, h5⟩ := shp_of hsh
  have hl := h.len
  have hn5 : n ≤ 500 := by omega
  have hSo := Lib.hid hShp.sortS
  have hrH := Lib.hid (fun (m : Nat) (e : Pt) (he : ps[m]? = some e) => hShp.pt m e he)
  have hH := Lib.hid h
  have hlH := Lib.hid hl
  have hvH := Lib.hid hv
  clear h hl hv hShp h1 h5
  go_enter Try.func12, Try.ntmps12
  go_wp2_with fail
  refine (shapeCodeB_at hH.out (by omega) hsh).mono ?_
  rintro _ w1 ⟨rfl, hb1⟩
  have hX := Lib.hid (hH.out.below RPt.stable hb1)
  have hbw1 := Lib.hid hb1
  clear hb1 hsh hH
  go_wp2_with fail
  go_loopg [16, 5] n (fun g i v wr => ∃ (m K : Nat), m + g = n ∧ K ≤ 4 * m ∧ i = .int .i64 (m : Int) ∧ v = .int .i64 (K : Int) ∧ Hid (outS ps m = K) ∧ Hid (Below w1.heap.size w1 wr))
  case atStart => exact ⟨0, 0, by omega, by omega, rfl, rfl, Lib.hid rfl, Lib.hid (bl_refl _)⟩
  case round =>
    obtain ⟨m, K, hm, hK, rfl, rfl, hO, hbw⟩ := hrel
    have hszl := hbw.out.size
    by_cases hmn : m < n
    · have hmI : (m : Int) < (n : Int) := by omega
      have hAw := hX.out.below RPt.stable hbw.out
      obtain ⟨bb, ob, rfl, hbb, hbc⟩ := hAw.ptr (by omega)
      obtain ⟨e, he⟩ := hAw.get hmn
      obtain ⟨e0, e1⟩ := hbc m e he
      have heH := Lib.hid he
      have her := hrH.out m e he
      clear hbc he hAw
      obtain ⟨b7, hb7⟩ : ∃ b, wr.heap.size = b := ⟨_, rfl⟩
      have hal : Below wr.heap.size wr (wr.alloc (Obj.cells #[.int .i64 e.x, .int .i64 e.y] 49)) := bl_al (bl_refl _) _
      have bP0 : Hid (Bx (wr.alloc (Obj.cells #[.int .i64 e.x, .int .i64 e.y] 49)) b7 [.int .i64 e.x, .int .i64 e.y]) := Lib.hid (by rw [← hb7]; exact Bx.made wr [.int .i64 e.x, .int .i64 e.y] _)
      have hbw0 := Lib.hid (hbw.out.trans (hal.mono hszl))
      clear hal hbw hszl
      go_wp2_with fail
      go_loopg [20, 5] 4 (fun g i v wr => ∃ (q R : Nat), q + g = 4 ∧ R ≤ K + q ∧ i = .int .i64 (q : Int) ∧ v = .int .i64 (R : Int) ∧ Hid (R = K + outQ ps e q) ∧ Hid (Below w1.heap.size w1 wr) ∧ Hid (Bx wr b7 [.int .i64 e.x, .int .i64 e.y]))
      case atStart => exact ⟨0, K, by omega, by omega, rfl, rfl, Lib.hid rfl, hbw0, bP0⟩
      case round =>
        clear hbw0 bP0
        obtain ⟨q, R, hq, hR, rfl, rfl, hRe, hbw, bP⟩ := hrel
        by_cases hq4 : q < 4
        · have hqI : (q : Int) < 4 := by omega
          have x0 := bP.out.cell 0 _ rfl
          have x1 := bP.out.cell 1 _ rfl
          have lx := bP.out.lt
          go_wp2_with fail
          refine (step_i e.x e.y (q : Int) wr (by omega) (by omega) (by omega)).mono ?_
          rintro _ w5 ⟨rfl, hj⟩
          replace bP := Lib.hid (bP.out.below hj)
          replace hbw := Lib.hid (hbw.out.trans (hj.mono hbw.out.size))
          clear hj x0 x1 lx
          obtain ⟨r, hr⟩ : ∃ r, decide ((⟨stepX e.x (q : Int), stepY e.y (q : Int)⟩ : Pt) ∈ ps) = r := ⟨_, rfl⟩
          have hrO := Lib.hid (show oD ps e q = if r = true then 0 else 1 by
            unfold oD nbr
            rw [← hr]
            simp)
          go_wp2_with fail
          refine (isIn_at (hX.out.below RPt.stable hbw.out) hSo.out (by omega) hr).mono ?_
          rintro _ w6 ⟨rfl, hj⟩
          replace bP := Lib.hid (bP.out.below hj)
          replace hbw := Lib.hid (hbw.out.trans (hj.mono hbw.out.size))
          clear hj hr
          cases r with
          | true =>
            go_wp2
            go_roundg (4 - (q + 1))
            case measure => omega
            case rel => exact ⟨q + 1, R, by omega, by omega, by go_num, rfl, Lib.hid (by have := hrO.out; have h2 := hRe.out; simp only [if_true] at this; simp only [outQ]; omega), hbw, bP⟩
          | false =>
            have hw1 : IntKind.i64.wrap ((R : Int) + 1) = ((R + 1 : Nat) : Int) := by rw [wrapFs (by omega) (by omega)]; omega
            go_wp2
            go_roundg (4 - (q + 1))
            case measure => omega
            case rel => exact ⟨q + 1, R + 1, by omega, by omega, by go_num, by go_num, Lib.hid (by have := hrO.out; have h2 := hRe.out; simp at this; simp only [outQ]; omega), hbw, bP⟩
        · obtain rfl : q = 4 := by omega
          go_wp2
          go_roundg (n - (m + 1))
          case measure => omega
          case rel => exact ⟨m + 1, R, by omega, by omega, by go_num, rfl, Lib.hid (by rw [outS_succ heH.out, hO.out]; exact hRe.out.symm), hbw⟩
    · obtain rfl : m = n := by omega
      have hmI : ¬ (m : Int) < (m : Int) := by omega
      have hKv : K = v := by
        rw [← hO.out, ← hvH.out]
        unfold outS perim
        rw [← hlH.out, List.take_length]
      subst hKv
      go_wp2
      go_ret2
      exact ⟨rfl, hbw1.out.trans (hbw.out.mono hbw1.out.size)⟩
end Go.Proofs.Ytkppijcjmhkkkaa
/- Walk: the drawn shape of the laws on shapes. -/






namespace Go.Proofs.Ytkppijcjmhkkkaa
open Go.RowKit
attribute [local go_sem] BelowBy.cell BelowBy.cell_drew stillUpon givesUpon KpBy.cell KpBy.cell_drew

theorem step_b {x : Int} {d : Int} {B : Nat} (h : -(B : Int) ≤ x ∧ x ≤ B) : (-((B + 1 : Nat) : Int) ≤ stepX x d ∧ stepX x d ≤ ((B + 1 : Nat) : Int)) ∧ (-((B + 1 : Nat) : Int) ≤ stepY x d ∧ stepY x d ≤ ((B + 1 : Nat) : Int)) := by
  constructor
  · unfold stepX; split <;> (try split) <;> omega
  · unfold stepY; split <;> (try split) <;> omega
theorem own_setO {w : World} {base : Nat} {e : TypeId} {size : Nat} {v : Value} {n : Nat} {xs : List Value} (h : w.ownsRow base e size v n xs) {p : Addr} (hp : v.ownBlock ≠ some p.block) (x : Value) : (w.setCell p x).ownsRow base e size v n xs := by
  refine h.kept (row := some p.block) ⟨rfl, rfl, rfl, by simp, fun k hk hne => Below.heap_setCell _ _ _ _ (fun e => hne (by rw [e]))⟩ ?_
  cases hb : v.ownBlock with
  | none => exact .inl rfl
  | some g => exact .inr fun e => hp (by rw [hb, e])
/-- a sorted row of at most M points within B of the origin -/
structure Drw (L : List Pt) (M B : Nat) : Prop where
  s : Sm L B
  n : L.length ≤ M
theorem Drw.put {L : List Pt} {M B : Nat} (h : Drw L M B) {x y : Int} (hx : -(B : Int) ≤ x ∧ x ≤ B) (hy : -(B : Int) ≤ y ∧ y ≤ B) : Drw (putP L x y) (M + 1) B :=
  ⟨⟨putP_sorted h.s.srt x y, fun p hp => by
    rcases putP_mem.1 hp with hp | rfl
    · exact h.s.rng p hp
    · exact ⟨hx, hy⟩⟩, Nat.le_trans (putP_len L x y) (by have := h.n; omega)⟩
theorem Drw.more {L : List Pt} {M M' B B' : Nat} (h : Drw L M B) (hM : M ≤ M') (hB : B ≤ B') : Drw L M' B' := ⟨⟨h.s.srt, fun p hp => by have := h.s.rng p hp; omega⟩, Nat.le_trans h.n hM⟩
theorem Drw.nil (M B : Nat) : Drw [] M B := ⟨⟨List.Pairwise.nil, fun p hp => by cases hp⟩, Nat.zero_le _⟩
theorem own_nil0 (wb : World) : (wb.alloc (Obj.cells #[] 49)).ownsRow wb.heap.size 49 2 (.slice (some ⟨wb.heap.size, 0, none⟩) 0 0) 0 (ptCells []) := by
  refine ⟨rfl, .inr ⟨wb.heap.size, 0, #[], rfl, Nat.le_refl _, ?_, Nat.le_refl _, by unfold maxLen; omega, rfl, rfl⟩⟩
  exact heap_alloc_new wb (Obj.cells #[] 49)
theorem grid_lt {X Y : Int} {W i j : Nat} (hW : 1 ≤ W) (h : i < j) : ltP ⟨X + ((i % W : Nat) : Int), Y + ((i / W : Nat) : Int)⟩ ⟨X + ((j % W : Nat) : Int), Y + ((j / W : Nat) : Int)⟩ := by
  rw [ltP_iff]
  have h1 : i / W ≤ j / W := Nat.div_le_div_right (Nat.le_of_lt h)
  have h2 := Nat.div_add_mod i W
  have h3 := Nat.div_add_mod j W
  rcases Nat.lt_or_ge (i / W) (j / W) with h4 | h4
  · simp only; omega
  · have e : i / W = j / W := by omega
    rw [e] at h2
    simp only; rw [e]; omega
/-- points of a rectangle in order, those before the place k -/
structure Grd (X Y : Int) (W : Nat) (L : List Pt) (k : Nat) : Prop where
  s : SortS L
  at_ : ∀ p ∈ L, ∃ j, j < k ∧ p = ⟨X + ((j % W : Nat) : Int), Y + ((j / W : Nat) : Int)⟩
  n : L.length ≤ k
theorem Grd.next {X Y : Int} {W k : Nat} {L : List Pt} (h : Grd X Y W L k) : Grd X Y W L (k + 1) := ⟨h.s, fun p hp => by obtain ⟨j, hj, e⟩ := h.at_ p hp; exact ⟨j, by omega, e⟩, by have := h.n; omega⟩
theorem Grd.snoc {X Y : Int} {W k : Nat} {L : List Pt} (hW : 1 ≤ W) (h : Grd X Y W L k) : Grd X Y W (L ++ [⟨X + ((k % W : Nat) : Int), Y + ((k / W : Nat) : Int)⟩]) (k + 1) := by
  refine ⟨?_, fun p hp => ?_, by rw [List.length_append, List.length_singleton]; have := h.n; omega⟩
  · unfold SortS
    rw [List.pairwise_append]
    refine ⟨h.s, List.pairwise_singleton _ _, fun a ha b hb => ?_⟩
    obtain ⟨j, hj, rfl⟩ := h.at_ a ha
    rw [List.mem_singleton.1 hb]
    exact grid_lt hW hj
  · rcases List.mem_append.1 hp with hp | hp
    · obtain ⟨j, hj, e⟩ := h.at_ p hp; exact ⟨j, by omega, e⟩
    · exact ⟨k, by omega, List.mem_singleton.1 hp⟩
theorem Grd.sm {X Y : Int} {W k : Nat} {L : List Pt} (h : Grd X Y W L k) (hW : 1 ≤ W ∧ W ≤ 5) (hk : k ≤ 5 * W) (hX : -2 ≤ X ∧ X ≤ 2) (hY : -2 ≤ Y ∧ Y ≤ 2) : Sm L 15 := ⟨h.s, fun p hp => by
  obtain ⟨j, hj, rfl⟩ := h.at_ p hp
  have h1 : j % W < W := Nat.mod_lt _ (by omega)
  have h2 : j / W < 5 := Nat.div_lt_of_lt_mul (by rw [Nat.mul_comm]; omega)
  obtain ⟨a, ha⟩ : ∃ a, j % W = a := ⟨_, rfl⟩
  obtain ⟨b, hb⟩ : ∃ b, j / W = b := ⟨_, rfl⟩
  rw [ha] at h1
  rw [hb] at h2
  rw [ha, hb]
  simp only
  omega⟩
/-- the drawn shape -/
def DrawnL (w : World) (p : Nat) (e : Ending) (w' : World) : Prop := ∃ A N c ps, e = .returned (.slice A N c) ∧ RdSl 2 RPt w' A N ps ∧ Sm ps 15 ∧ 1 ≤ N ∧ N ≤ 25 ∧ Kp p w w'
set_option maxRecDepth 100000 in
set_option maxHeartbeats 8000000 in
theorem l04Draw_any {p K : Nat} {w : World} (h : SrcE w p K) (hK : K ≤ 100000) (hp : p < w.heap.size) :
    Calls Try.prog 19 #[.pointer (some ⟨p, 0, none⟩)] w (DrawnL w p) := by
  obtain ⟨i0, hi, hz0, hz1, hz2⟩ := info_parts infoPtQ
  have hS := Lib.hid h
  clear h
  go_enter Try.func19, Try.ntmps19
  go_wp2_with fail
  -- the row in the making, in a block of its own
  have hal : Below w.heap.size w (w.alloc (Obj.cells #[] 49)) := bl_al (bl_refl _) _
  have hO := Lib.hid (RowPt.mk (L := []) (own_nil0 w) rfl)
  replace hS := Lib.hid (hS.out.below hal)
  have hkp := Lib.hid ((Kp.refl p w).al (Nat.le_of_lt hp) (Obj.cells #[] 49))
  obtain ⟨w1, hw1⟩ : ∃ z, z = w.alloc (Obj.cells #[] 49) := ⟨_, rfl⟩
  rw [← hw1] at hO hS hkp ⊢
  clear hw1 hal
  refine (pickE_any 5 hS.out (by omega) rfl (by omega) (by omega)).mono ?_
  rintro _ w2 ⟨vx, rfl, hvx, hS2, hk⟩
  replace hS := Lib.hid hS2
  replace hO := Lib.hid (RowPt.mk (Own_kp hO.out.own hp hk) hO.out.len)
  replace hkp := Lib.hid (hkp.out.trans hk)
  clear hS2 hk
  go_wp2_with fail
  refine (pickE_any 5 hS.out (by omega) rfl (by omega) (by omega)).mono ?_
  rintro _ w3 ⟨vy, rfl, hvy, hS2, hk⟩
  replace hS := Lib.hid hS2
  replace hO := Lib.hid (RowPt.mk (Own_kp hO.out.own hp hk) hO.out.len)
  replace hkp := Lib.hid (hkp.out.trans hk)
  clear hS2 hk
  obtain ⟨X, hX⟩ : ∃ X, (vx : Int) - 2 = X := ⟨_, rfl⟩
  obtain ⟨Y, hY⟩ : ∃ Y, (vy : Int) - 2 = Y := ⟨_, rfl⟩
  have hXb : -2 ≤ X ∧ X ≤ 2 := by omega
  have hYb : -2 ≤ Y ∧ Y ≤ 2 := by omega
  go_wp2_with fail
  try simp only [hX, hY]
  clear hX hY
  obtain ⟨w4, hw4⟩ : ∃ z, z = w3.alloc (Obj.cells #[.int .i64 X, .int .i64 Y] 49) := ⟨_, rfl⟩
  have hal : Below w3.heap.size w3 w4 := by rw [hw4]; exact bl_al (bl_refl _) _
  have bx0 : Bx w4 w3.heap.size [.int .i64 X, .int .i64 Y] := by rw [hw4]; exact Bx.made w3 [.int .i64 X, .int .i64 Y] _
  have hkal := (Kp.refl p w3).al (Nat.le_of_lt (hkp.out.lt hp)) (Obj.cells #[.int .i64 X, .int .i64 Y] 49)
  rw [← hw4] at hkal
  obtain ⟨b4, hb4⟩ : ∃ b, w3.heap.size = b := ⟨_, rfl⟩
  have hb4w : w.heap.size ≤ b4 := by rw [← hb4]; exact hkp.out.below.size
  have hne0 : Hid ((Value.slice (some ⟨w.heap.size, 0, none⟩) 0 0).ownBlock ≠ some b4) := Lib.hid (fun e => by have := (hO.out.own.lt _ e).2; omega)
  rw [hb4] at bx0
  have bx := Lib.hid bx0
  replace hO := Lib.hid (hO.out.below hal)
  replace hS := Lib.hid (hS.out.below hal)
  replace hkp := Lib.hid (hkp.out.trans hkal)
  rw [← hw4]
  try simp only [hb4]
  clear hw4 hal bx0 hkal hb4
  refine (pickE_any 4 hS.out (by omega) rfl (by omega) (by omega)).mono ?_
  rintro _ w5 ⟨vc, rfl, hvc, hS2, hk⟩
  have hb4p : b4 ≠ p := by omega
  replace hS := Lib.hid hS2
  replace hO := Lib.hid (RowPt.mk (Own_kp hO.out.own hp hk) hO.out.len)
  replace hkp := Lib.hid (hkp.out.trans hk)
  replace bx := Lib.hid (bx.out.kp hb4p hk)
  clear hS2 hk
  have c4 : vc = 0 ∨ vc = 1 ∨ 2 ≤ vc := by omega
  rcases c4 with rfl | rfl | h2
  · go_wp2_with fail
    refine (pickE_any 5 hS.out (by omega) rfl (by omega) (by omega)).mono ?_
    rintro _ w6 ⟨vt, rfl, hvt, hS2, hk⟩
    replace hS := Lib.hid hS2
    replace hO := Lib.hid (RowPt.mk (Own_kp hO.out.own hp hk) hO.out.len)
    replace hkp := Lib.hid (hkp.out.trans hk)
    replace bx := Lib.hid (bx.out.kp hb4p hk)
    clear hS2 hk
    have hw9 : IntKind.i64.wrap (1 + (vt : Int)) = ((vt + 1 : Nat) : Int) := by rw [wrapFs (by omega) (by omega)]; omega
    obtain ⟨W, hW⟩ : ∃ W, vt + 1 = W := ⟨_, rfl⟩
    rw [hW] at hw9
    have hW5 : 1 ≤ W ∧ W ≤ 5 := by omega
    clear hW
    go_wp2_with fail
    go_loopg [6, 3] (5 * W + 1) (fun g i v wr => ∃ (d N : Nat) (L : List Pt), d + g = 5 * W + 1 ∧ d ≤ 5 * W ∧ N ≤ d ∧ i = .int .i64 (d : Int) ∧ Hid (RowPt wr w.heap.size v N L) ∧ Hid (Grd X Y W L d) ∧ Hid (Bx wr b4 [.int .i64 X, .int .i64 Y]) ∧ Hid (v.ownBlock ≠ some b4) ∧ Hid (SrcE wr p (K + 4 + 2 * d)) ∧ Hid (Kp p w wr))
    case atStart => exact ⟨0, 0, [], by omega, by omega, by omega, rfl, hO, Lib.hid ⟨List.Pairwise.nil, fun p hp => (by cases hp), Nat.zero_le _⟩, bx, hne0, Lib.hid (hS.out.more (by omega)), hkp⟩
    case round =>
      clear hO hS hkp bx hne0
      obtain ⟨d, N, L, hd, hd5, hNd, rfl, hO, hG, bx, hne, hS, hkp⟩ := hrel
      obtain ⟨A1, c1, rfl⟩ := ownsRow_form hO.out.own
      go_wp2_with fail
      refine (pickE_any 5 hS.out (by omega) rfl (by omega) (by omega)).mono ?_
      rintro _ w7 ⟨vh, rfl, hvh, hS2, hk⟩
      replace hS := Lib.hid hS2
      replace hO := Lib.hid (RowPt.mk (Own_kp hO.out.own hp hk) hO.out.len)
      replace hkp := Lib.hid (hkp.out.trans hk)
      replace bx := Lib.hid (bx.out.kp hb4p hk)
      clear hS2 hk
      have hw1 : IntKind.i64.wrap (1 + (vh : Int)) = ((vh + 1 : Nat) : Int) := by rw [wrapFs (by omega) (by omega)]; omega
      obtain ⟨Hh, hHh⟩ : ∃ Hh, vh + 1 = Hh := ⟨_, rfl⟩
      rw [hHh] at hw1
      obtain ⟨P, hP⟩ : ∃ P, W * Hh = P := ⟨_, rfl⟩
      have hP5 : P ≤ 5 * W := by rw [← hP, Nat.mul_comm]; exact Nat.mul_le_mul (by omega) (Nat.le_refl _)
      have hw2 : IntKind.i64.wrap ((W : Int) * (Hh : Int)) = (P : Int) := by rw [← Int.natCast_mul, hP]; exact wrapFs (by omega) (by omega)
      clear hP hHh
      by_cases hdP : d < P
      · have hdI : (d : Int) < (P : Int) := by omega
        go_wp2_with fail
        refine (oneE_any 5 hS.out (by omega) rfl (by omega) (by omega)).mono ?_
        rintro _ w8 ⟨vo, rfl, hS2, hk⟩
        replace hS := Lib.hid hS2
        replace hO := Lib.hid (RowPt.mk (Own_kp hO.out.own hp hk) hO.out.len)
        replace hkp := Lib.hid (hkp.out.trans hk)
        replace bx := Lib.hid (bx.out.kp hb4p hk)
        clear hS2 hk
        cases vo with
        | true =>
          go_wp2
          go_roundg (5 * W + 1 - (d + 1))
          case measure => omega
          case rel => exact ⟨d + 1, N, L, by omega, by omega, by omega, by go_num, hO, Lib.hid hG.out.next, bx, hne, Lib.hid (hS.out.more (by omega)), hkp⟩
        | false =>
          have x0 := bx.out.cell 0 _ rfl
          have x1 := bx.out.cell 1 _ rfl
          have lx := bx.out.lt
          obtain ⟨a, ha⟩ : ∃ a, d % W = a := ⟨_, rfl⟩
          obtain ⟨b, hb⟩ : ∃ b, d / W = b := ⟨_, rfl⟩
          have hm : Int.tmod (d : Int) (W : Int) = (a : Int) := by rw [← ha]; rfl
          have hq : Int.tdiv (d : Int) (W : Int) = (b : Int) := by rw [← hb]; rfl
          have hWn : ¬ W = 0 := by omega
          have hGs := Lib.hid (hG.out.snoc hW5.1)
          rw [ha, hb] at hGs
          have ha5 : a < 5 := by rw [← ha]; exact Nat.lt_of_lt_of_le (Nat.mod_lt _ (by omega)) hW5.2
          have hb5 : b < 5 := by rw [← hb]; exact Nat.div_lt_of_lt_mul (by rw [Nat.mul_comm]; omega)
          have hwx : IntKind.i64.wrap (X + (a : Int)) = X + (a : Int) := wrapFs (by omega) (by omega)
          have hwy : IntKind.i64.wrap (Y + (b : Int)) = Y + (b : Int) := wrapFs (by omega) (by omega)
          have hwb : IntKind.i64.wrap (b : Int) = (b : Int) := wrapFs (by omega) (by omega)
          clear ha hb
          go_wp2_with fail
          refine wp_region_ord [(0, .q), (1, .q), (2, .q), (3, .q), (4, .q), (5, .q), (6, .q), (7, .q), (8, .q), (9, .q), (10, .q), (11, .q), (12, .q), (13, .q), (14, .g), (15, .b), (16, .q)] (by kernel_rfl) (by kernel_rfl) ?_
          simp only [pick, List.filterMap_cons, List.filterMap_nil, List.getElem?_toArray, List.getElem?_cons_zero, List.getElem?_cons_succ, Option.map_some]
          repeat (first | ((with_reducible refine wpD_p (fun K hK => ?_)); go_simp; refine hK _ ?_; clear hK K) | ((with_reducible refine wpD_q (fun K hK => ?_)); go_simp; (first | refine hK _ ?_ | (go_bits; refine hK _ ?_) | (go_bits; go_simp; refine hK _ ?_)); clear hK K))
          with_reducible refine wpD_g (fun K hK => ?_)
          go_simp
          refine ⟨Grew.of_alloc _, hK _ _ ?_⟩
          clear hK K
          have hal : Below w8.heap.size w8 (w8.drew.alloc (Obj.cells #[.int .i64 (X + (a : Int)), .int .i64 (Y + (b : Int))] 49)) := bl_al (bl_dr (bl_refl _)) _
          have hszl := hkp.out.below.size
          have hO4 := hO.out.below hal
          have bx4 := bx.out.below hal
          have hS4 := hS.out.below hal
          refine wpD_append_atN rfl _ _ 24 rfl w.heap.size 49 i0 (.agg #[.int .i64 0, .int .i64 0]) 2 16 Try.underlying24 hi hz0 hz1 hz2 rfl (by decide) (.slice A1 N c1) N (ptCells L) (by go_simp) hO4.own ⟨w8.heap.size, 0, none⟩ 1 1 [.int .i64 (X + (a : Int)), .int .i64 (Y + (b : Int))] (by go_simp) rfl (cell_two_newN _ _ _ _) (fun x hx => by simp at hx; rcases hx with rfl | rfl <;> rfl) (by unfold maxLen; omega) (by omega) (by simp; omega) ?_
          intro v9 w9 hown9 hgrow9 hat9
          obtain ⟨A9, c9, rfl⟩ := ownsRow_form hown9
          have hbX : Below w.heap.size w8 w9 := (hal.mono hszl).grown hgrow9 (by simp; omega) (fun g e => (hO4.own.lt g e).1)
          have bx9 := Lib.hid (bx4.grown hgrow9 hne.out)
          have hne9 : Hid ((Value.slice A9 (N + 1) c9).ownBlock ≠ some b4) := Lib.hid (fun e => by
            rcases hat9 with h2 | h2
            · exact hne.out (h2.symm.trans e)
            · rw [h2] at e; injection e with e; simp at e; omega)
          have hO9 := Lib.hid (RowPt.snoc hO4.len hown9)
          have hS9 := Lib.hid (hS.out.belowB hp hbX)
          have hkp9 := Lib.hid (hkp.out.thenB hp hbX)
          clear hown9 hgrow9 hat9 hal hO4 bx4 hS4 hbX x0 x1 lx hszl
          repeat (first | ((with_reducible refine wpD_p (fun K hK => ?_)); go_simp; refine hK _ ?_; clear hK K) | ((with_reducible refine wpD_q (fun K hK => ?_)); go_simp; (first | refine hK _ ?_ | (go_bits; refine hK _ ?_) | (go_bits; go_simp; refine hK _ ?_)); clear hK K))
          with_reducible refine wpD_nil ?_
          go_wp2
          go_roundg (5 * W + 1 - (d + 1))
          case measure => omega
          case rel => exact ⟨d + 1, N + 1, _, by omega, by omega, by omega, by go_num, hO9, hGs, bx9, hne9, Lib.hid (hS9.out.more (by omega)), hkp9⟩
      · have hdI : ¬ (d : Int) < (P : Int) := by omega
        by_cases hN0 : N = 0
        · subst hN0
          have x0 := bx.out.cell 0 _ rfl
          have x1 := bx.out.cell 1 _ rfl
          have lx := bx.out.lt
          have hszl := hkp.out.below.size
          go_wp2_with (at_builtin; have hal : Below w7.heap.size w7 (w7.alloc (Obj.cells #[.int .i64 X, .int .i64 Y] 49)) := bl_al (bl_refl _) _; refine wpList_append_own_at _ rfl _ _ 24 rfl w.heap.size 49 i0 (.agg #[.int .i64 0, .int .i64 0]) 2 16 Try.underlying24 hi hz0 hz1 hz2 rfl (by decide) (.slice A1 0 c1) 0 (ptCells L) rfl (hO.out.below hal).own ⟨w7.heap.size, 0, none⟩ 1 1 [.int .i64 X, .int .i64 Y] rfl rfl (cell_two_newN _ _ _ _) (fun x hx => by simp at hx; rcases hx with rfl | rfl <;> rfl) (by unfold maxLen; omega) (by omega) (by simp; omega) ?_; intro v9 w9 hown9 hgrow9 _ hat9; obtain ⟨A9, c9, rfl⟩ := ownsRow_form hown9; have hkp9 := Lib.hid (hkp.out.thenB hp ((hal.mono hszl).grown hgrow9 (by simp; omega) (fun g e => ((hO.out.below hal).own.lt g e).1))); have hO9 := Lib.hid (RowPt.snoc hO.out.len hown9); clear hown9 hgrow9 hat9 hal)
          go_ret
          have hL0 : L = [] := List.length_eq_zero_iff.1 hO.out.len
          subst hL0
          exact ⟨A9, 1, c9, [⟨X, Y⟩], rfl, rdPt_own hO9.out.own rfl, ⟨List.pairwise_singleton _ _, fun q hq => by rw [List.mem_singleton.1 hq]; simp only; omega⟩, by omega, by omega, hkp9.out⟩
        · have hNI : ¬ (N : Int) = 0 := by omega
          go_wp2
          go_ret
          exact ⟨A1, N, c1, L, rfl, rdPt_own hO.out.own hO.out.len, hG.out.sm hW5 hd5 hXb hYb, by omega, by omega, hkp.out⟩
  · go_wp2_with fail
    refine (pickE_any 8 hS.out (by omega) rfl (by omega) (by omega)).mono ?_
    rintro _ w6 ⟨vt, rfl, hvt, hS2, hk⟩
    replace hS := Lib.hid hS2
    replace hO := Lib.hid (RowPt.mk (Own_kp hO.out.own hp hk) hO.out.len)
    replace hkp := Lib.hid (hkp.out.trans hk)
    clear hS2 hk bx hne0
    have hw9 : IntKind.i64.wrap (1 + (vt : Int)) = ((vt + 1 : Nat) : Int) := by rw [wrapFs (by omega) (by omega)]; omega
    obtain ⟨T, hT⟩ : ∃ T, vt + 1 = T := ⟨_, rfl⟩
    rw [hT] at hw9
    have hT8 : 1 ≤ T ∧ T ≤ 8 := by omega
    clear hT
    go_wp2_with fail
    go_loopg [7, 3] T (fun g i v wr => ∃ (d r N : Nat) (L : List Pt), d + r = T ∧ r = g ∧ i = .int .i64 (r : Int) ∧ (d = 0 ∨ 1 ≤ N) ∧ Hid (RowPt wr w.heap.size v N L) ∧ Hid (Drw L d 6) ∧ Hid (SrcE wr p (K + 4 + 2 * d)) ∧ Hid (Kp p w wr))
    case atStart => exact ⟨0, T, 0, [], by omega, rfl, rfl, .inl rfl, hO, Lib.hid (Drw.nil _ _), Lib.hid (hS.out.more (by omega)), hkp⟩
    case round =>
      clear hO hS hkp
      obtain ⟨d, r, N, L, hd, hr, rfl, hN, hO, hD, hS, hkp⟩ := hrel
      obtain ⟨A1, c1, rfl⟩ := ownsRow_form hO.out.own
      by_cases hr0 : 0 < r
      · have hrI : (0 : Int) < (r : Int) := by omega
        have hlN := hO.out.len
        subst hlN
        have hn25 := hD.out.n
        go_wp2_with fail
        refine (pickE_any 7 hS.out (by omega) rfl (by omega) (by omega)).mono ?_
        rintro _ w7 ⟨x, rfl, hx, hS2, hk⟩
        replace hS := Lib.hid hS2
        replace hO := Lib.hid (RowPt.mk (Own_kp hO.out.own hp hk) hO.out.len)
        replace hkp := Lib.hid (hkp.out.trans hk)
        clear hS2 hk
        go_wp2_with fail
        refine (pickE_any 5 hS.out (by omega) rfl (by omega) (by omega)).mono ?_
        rintro _ w8 ⟨y, rfl, hy, hS2, hk⟩
        replace hS := Lib.hid hS2
        replace hO := Lib.hid (RowPt.mk (Own_kp hO.out.own hp hk) hO.out.len)
        replace hkp := Lib.hid (hkp.out.trans hk)
        clear hS2 hk
        have hszl := hkp.out.below.size
        have hown := hO.out.own
        go_wp2_with fail
        refine (l08PutPoint_any hown hszl (by omega)).mono ?_
        rintro _ w9 ⟨v7, rfl, hown7, hb7⟩
        obtain ⟨A7, c7, rfl⟩ := ownsRow_form hown7
        replace hS := Lib.hid (hS.out.belowB hp hb7)
        replace hkp := Lib.hid (hkp.out.thenB hp hb7)
        have hD7 := Lib.hid (hD.out.put (x := (x : Int)) (y := (y : Int)) (by omega) (by omega))
        have hN7 : 1 ≤ (putP L (x : Int) (y : Int)).length := List.length_pos_of_mem (putP_mem.2 (.inr rfl))
        obtain ⟨L7, hL7⟩ : ∃ L7, putP L (x : Int) (y : Int) = L7 := ⟨_, rfl⟩
        rw [hL7] at hown7 hD7 hN7 ⊢
        have hO7 := Lib.hid (RowPt.mk hown7 rfl)
        clear hown hown7 hb7 hO hD hL7 hszl
        go_wp2
        go_roundg (r - 1)
        case measure => omega
        case rel => exact ⟨d + 1, r - 1, L7.length, L7, by omega, rfl, by congr 1; omega, .inr hN7, hO7, hD7, Lib.hid (hS.out.more (by omega)), hkp⟩
      · have hrI : ¬ (0 : Int) < (r : Int) := by omega
        have hN1 : 1 ≤ N := by omega
        have hNI : ¬ (N : Int) = 0 := by omega
        have hnN := hD.out.n
        have hlN := hO.out.len
        go_wp2
        go_ret
        exact ⟨A1, N, c1, L, rfl, rdPt_own hO.out.own hO.out.len, (hD.out.more (Nat.le_refl _) (show 6 ≤ 15 by omega)).s, hN1, by omega, hkp.out⟩
  · have c0 : ¬ (vc : Int) = 0 := by omega
    have c1 : ¬ (vc : Int) = 1 := by omega
    go_wp2_with fail
    refine (pickE_any 14 hS.out (by omega) rfl (by omega) (by omega)).mono ?_
    rintro _ w6 ⟨vt, rfl, hvt, hS2, hk⟩
    replace hS := Lib.hid hS2
    replace hO := Lib.hid (RowPt.mk (Own_kp hO.out.own hp hk) hO.out.len)
    replace hkp := Lib.hid (hkp.out.trans hk)
    replace bx := Lib.hid (bx.out.kp hb4p hk)
    clear hS2 hk
    have hw9 : IntKind.i64.wrap (1 + (vt : Int)) = ((vt + 1 : Nat) : Int) := by rw [wrapFs (by omega) (by omega)]; omega
    obtain ⟨T, hT⟩ : ∃ T, vt + 1 = T := ⟨_, rfl⟩
    rw [hT] at hw9
    have hT14 : 1 ≤ T ∧ T ≤ 14 := by omega
    clear hT
    go_wp2_with fail
    go_loopg [9, 3] T (fun g i v wr => ∃ (d r N : Nat) (L : List Pt) (x y : Int), d + r = T ∧ r = g ∧ i = .int .i64 (r : Int) ∧ ((-(2 + (d : Int)) ≤ x ∧ x ≤ 2 + (d : Int)) ∧ (-(2 + (d : Int)) ≤ y ∧ y ≤ 2 + (d : Int))) ∧ (d = 0 ∨ 1 ≤ N) ∧ Hid (RowPt wr w.heap.size v N L) ∧ Hid (Drw L d (1 + d)) ∧ Hid (Bx wr b4 [.int .i64 x, .int .i64 y]) ∧ Hid (v.ownBlock ≠ some b4) ∧ Hid (SrcE wr p (K + 4 + d)) ∧ Hid (Kp p w wr))
    case atStart => exact ⟨0, T, 0, [], X, Y, by omega, rfl, rfl, by omega, .inl rfl, hO, Lib.hid (Drw.nil _ _), bx, hne0, Lib.hid (hS.out.more (by omega)), hkp⟩
    case round =>
      clear hO bx hne0 hS hkp
      obtain ⟨d, r, N, L, x, y, hd, hr, rfl, hxy, hN, hO, hD, bx, hne, hS, hkp⟩ := hrel
      obtain ⟨A1, c1, rfl⟩ := ownsRow_form hO.out.own
      have hszl := hkp.out.below.size
      by_cases hr0 : 0 < r
      · have hrI : (0 : Int) < (r : Int) := by omega
        have x0 := bx.out.cell 0 _ rfl
        have x1 := bx.out.cell 1 _ rfl
        have lx := bx.out.lt
        have hown := hO.out.own
        have hlN := hO.out.len
        subst hlN
        have hn25 := hD.out.n
        go_wp2_with fail
        refine (l08PutPoint_kp hown hszl (by omega)).mono ?_
        rintro _ w7 ⟨v7, rfl, hown7, hb7, hkw7, hne7⟩
        obtain ⟨A7, c7, rfl⟩ := ownsRow_form hown7
        have hneb : some b4 ≠ (Value.slice A1 L.length c1).ownBlock := fun e => hne.out e.symm
        replace bx := Lib.hid (bx.out.of_block hb7.size (hkw7 b4 lx hneb))
        have hne8 := Lib.hid (fun (e : (Value.slice A7 (putP L x y).length c7).ownBlock = some b4) => hne7 b4 lx hneb e.symm)
        replace hS := Lib.hid (hS.out.belowB hp hb7)
        replace hkp := Lib.hid (hkp.out.thenB hp hb7)
        have hD7 := Lib.hid ((hD.out.more (Nat.le_refl d) (show 1 + d ≤ 1 + (d + 1) by omega)).put (x := x) (y := y) (by omega) (by omega))
        have hN7 : 1 ≤ (putP L x y).length := List.length_pos_of_mem (putP_mem.2 (.inr rfl))
        obtain ⟨L7, hL7⟩ : ∃ L7, putP L x y = L7 := ⟨_, rfl⟩
        rw [hL7] at hown7 hne8 hD7 hN7 ⊢
        have hO7 := Lib.hid (RowPt.mk hown7 rfl)
        clear hown hown7 hb7 hkw7 hne7 hneb hne hO hD x0 x1 lx hL7 hszl
        have hszl := hkp.out.below.size
        have x0 := bx.out.cell 0 _ rfl
        have x1 := bx.out.cell 1 _ rfl
        have lx := bx.out.lt
        have lp := hS.out.lt
        go_wp2_with fail
        refine wp_region_ordK (p := p) [(0, .q), (1, .q), (2, .g), (3, .g), (4, .b)] (by kernel_rfl) (by kernel_rfl) ?_
        simp only [pick, List.filterMap_cons, List.filterMap_nil, List.getElem?_toArray, List.getElem?_cons_zero, List.getElem?_cons_succ, Option.map_some]
        repeat (first | ((with_reducible refine wpK_p (fun K hK => ?_)); go_simp; refine hK _ ?_; clear hK K) | ((with_reducible refine wpK_q (fun K hK => ?_)); go_simp; (first | refine hK _ ?_ | (go_bits; refine hK _ ?_) | (go_bits; go_simp; refine hK _ ?_)); clear hK K))
        with_reducible refine wpK_g (fun K hK => ?_)
        go_simp
        go_at_call 21
        refine (pickE_any 4 (hS.out.below (bl_dr (bl_refl w7))) (by omega) rfl (by omega) (by omega)).mono ?_
        rintro e w8 ⟨v8, rfl, hv8, hS8, hk8⟩
        refine ⟨_, rfl, hk8, hK _ _ ?_⟩
        clear hK K
        have hk8' := ((Kp.refl p w7).then lp (bl_dr (bl_refl w7))).trans hk8
        have bx8 := Lib.hid (bx.out.kp hb4p hk8')
        have hO8 := Lib.hid (RowPt.mk (Own_kp hO7.out.own hp hk8') rfl)
        have hkp8 := Lib.hid (hkp.out.trans hk8')
        replace hS8 := Lib.hid hS8
        have lp8 := hS8.out.lt
        clear hk8 hk8' x0 x1 lx bx hO7 hkp hS
        repeat (first | ((with_reducible refine wpK_p (fun K hK => ?_)); go_simp; refine hK _ ?_; clear hK K) | ((with_reducible refine wpK_q (fun K hK => ?_)); go_simp; (first | refine hK _ ?_ | (go_bits; refine hK _ ?_) | (go_bits; go_simp; refine hK _ ?_)); clear hK K))
        with_reducible refine wpK_g (fun K hK => ?_)
        go_simp
        go_at_call 43
        obtain ⟨x', hx'⟩ : ∃ x', stepX x (v8 : Int) = x' := ⟨_, rfl⟩
        obtain ⟨y', hy'⟩ : ∃ y', stepY y (v8 : Int) = y' := ⟨_, rfl⟩
        refine (l01Step_to (d := v8) _ hv8 (by omega) (by omega) hx' hy').mono ?_
        rintro e w9 ⟨rfl, hb9⟩
        refine ⟨_, rfl, (Kp.refl _ _).then lp8 hb9, hK _ _ ?_⟩
        clear hK K
        have hk9 := (Kp.refl p w8).then lp8 hb9
        have bx9 := Lib.hid (bx8.out.below hb9)
        have hO9 := Lib.hid (hO8.out.below hb9)
        have hkp9 := Lib.hid (hkp8.out.trans hk9)
        have hS9 := Lib.hid (hS8.out.below hb9)
        have hxy' : (-(2 + ((d + 1 : Nat) : Int)) ≤ x' ∧ x' ≤ 2 + ((d + 1 : Nat) : Int)) ∧ (-(2 + ((d + 1 : Nat) : Int)) ≤ y' ∧ y' ≤ 2 + ((d + 1 : Nat) : Int)) := by
          rw [← hx', ← hy']
          have s1 := (step_b (x := x) (d := (v8 : Int)) (B := 2 + d) (by omega)).1
          have s2 := (step_b (x := y) (d := (v8 : Int)) (B := 2 + d) (by omega)).2
          omega
        clear hk9 hb9 bx8 hO8 hkp8 hS8 lp8 hx' hy'
        have x0 := bx9.out.cell 0 _ rfl
        have x1 := bx9.out.cell 1 _ rfl
        have f0 := bx9.out.froz 0
        have f1 := bx9.out.froz 1
        have lx := bx9.out.lt
        repeat (first | ((with_reducible refine wpK_p (fun K hK => ?_)); go_simp; refine hK _ ?_; clear hK K) | ((with_reducible refine wpK_q (fun K hK => ?_)); go_simp; (first | refine hK _ ?_ | (go_bits; refine hK _ ?_) | (go_bits; go_simp; refine hK _ ?_)); clear hK K))
        with_reducible refine wpK_b (fun K hK => ?_)
        go_simp
        refine hK _ _ ?_
        clear hK K
        repeat (first | ((with_reducible refine wpK_p (fun K hK => ?_)); go_simp; refine hK _ ?_; clear hK K) | ((with_reducible refine wpK_q (fun K hK => ?_)); go_simp; (first | refine hK _ ?_ | (go_bits; refine hK _ ?_) | (go_bits; go_simp; refine hK _ ?_)); clear hK K))
        with_reducible refine wpK_nil ?_
        go_wp2
        go_roundg (r - 1)
        case measure => omega
        case rel => exact ⟨d + 1, r - 1, L7.length, L7, x', y', by omega, rfl, by congr 1; omega, hxy', .inr hN7, Lib.hid ⟨own_setO (own_setO hO9.out.own hne8.out _) hne8.out _, rfl⟩, Lib.hid hD7.out, Lib.hid ((bx9.out.setSame 0 _).setSame 1 _), hne8, Lib.hid ((hS9.out.belowB hp (((Below.refl _ _).setCell (p := ⟨b4, 0, none⟩) hb4w _).setCell (p := ⟨b4, 1, none⟩) hb4w _)).more (by omega)), Lib.hid (hkp9.out.thenB hp (((Below.refl _ _).setCell (p := ⟨b4, 0, none⟩) hb4w _).setCell (p := ⟨b4, 1, none⟩) hb4w _))⟩
      · have hrI : ¬ (0 : Int) < (r : Int) := by omega
        have hN1 : 1 ≤ N := by omega
        have hNI : ¬ (N : Int) = 0 := by omega
        have hnN := hD.out.n
        have hlN := hO.out.len
        go_wp2
        go_ret
        exact ⟨A1, N, c1, L, rfl, rdPt_own hO.out.own hO.out.len, (hD.out.more (Nat.le_refl _) (show 1 + d ≤ 15 by omega)).s, hN1, by omega, hkp.out⟩
end Go.Proofs.Ytkppijcjmhkkkaa
