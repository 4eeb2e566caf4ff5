import Derived.Test.YtkppijcjmhkkkaaGAP
import Derived.Test.YtkppijcjmhkkkaaGAJ
import Derived.Test.YtkppijcjmhkkkaaGAG
import Derived.Test.YtkppijcjmhkkkaaGAL
import Derived.Test.YtkppijcjmhkkkaaGAM
import Derived.Test.YtkppijcjmhkkkaaGAF
import Derived.Test.YtkppijcjmhkkkaaGAN
set_option linter.unusedSimpArgs false
set_option linter.unusedVariables false
/- Walks: the points of a rectangle, the program; a point of a shape looked for, the reference. -/


namespace Go.Proofs.Ytkppijcjmhkkkaa
open Go.RowKit Go.Shelf
attribute [local go_sem] BelowBy.cell BelowBy.cell_drew stillUpon givesUpon

set_option maxRecDepth 100000 in
set_option maxHeartbeats 4000000 in
theorem rectangle_any (lx ly hx hy : Int) (W H : Nat) (w : World) (hW : hx + 1 = lx + (W : Int)) (hH : hy + 1 = ly + (H : Int)) (hW1 : W ≤ 200) (hH1 : H ≤ 200) (hlx : -1000 ≤ lx ∧ lx ≤ 1000) (hly : -1000 ≤ ly ∧ ly ≤ 1000) :
    Calls Try.prog 55 #[.agg #[.int .i64 lx, .int .i64 ly], .agg #[.int .i64 hx, .int .i64 hy]] w fun e w' => ∃ v, e = .returned v ∧ w'.ownsRow w.heap.size 49 2 v (H * W) (ptCells (rectP lx ly W H)) ∧ Below w.heap.size w w' := by
  obtain ⟨i0, hi, hz0, hz1, hz2⟩ := info_parts infoPtQ
  have hWH := Lib.hid hW
  have hHH := Lib.hid hH
  have hhx : hx ≤ 1200 := by omega
  have hhy : hy ≤ 1200 := by omega
  clear hW hH
  go_enter Try.func55, Try.ntmps55
  go_wp2
  have b0 : ((w.alloc (Obj.cells #[.int .i64 lx, .int .i64 ly] 49)).alloc (Obj.cells #[.int .i64 hx, .int .i64 hy] 49)).cell? ⟨w.heap.size, 0, none⟩ = some (.int .i64 lx) := by go_simp
  have b1 : ((w.alloc (Obj.cells #[.int .i64 lx, .int .i64 ly] 49)).alloc (Obj.cells #[.int .i64 hx, .int .i64 hy] 49)).cell? ⟨w.heap.size + 1, 0, none⟩ = some (.int .i64 hx) := by go_simp
  have b2 : ((w.alloc (Obj.cells #[.int .i64 lx, .int .i64 ly] 49)).alloc (Obj.cells #[.int .i64 hx, .int .i64 hy] 49)).cell? ⟨w.heap.size + 1, 1, none⟩ = some (.int .i64 hy) := by go_simp
  have hs2 : ((w.alloc (Obj.cells #[.int .i64 lx, .int .i64 ly] 49)).alloc (Obj.cells #[.int .i64 hx, .int .i64 hy] 49)).heap.size = w.heap.size + 2 := by simp
  have hbW : Below w.heap.size w ((w.alloc (Obj.cells #[.int .i64 lx, .int .i64 ly] 49)).alloc (Obj.cells #[.int .i64 hx, .int .i64 hy] 49)) := bl_al (bl_al (bl_refl _) _) _
  obtain ⟨W2, hW2⟩ : ∃ W2, ((w.alloc (Obj.cells #[.int .i64 lx, .int .i64 ly] 49)).alloc (Obj.cells #[.int .i64 hx, .int .i64 hy] 49)) = W2 := ⟨_, rfl⟩
  rw [hW2] at b0 b1 b2 hs2 hbW ⊢
  have hl1 : w.heap.size + 1 < W2.heap.size := by omega
  have hl0 : w.heap.size < W2.heap.size := by omega
  have hs2H := Lib.hid hs2
  clear hW2 hs2
  go_loopg [5, 6] H (fun g v y wr => ∃ (j : Nat), j + g = H ∧ y = .int .i64 (ly + (j : Int)) ∧ Hid (wr.ownsRow W2.heap.size 49 2 v (j * W) (ptCells (rectP lx ly W j))) ∧ Hid (Below W2.heap.size W2 wr))
  case atStart => exact ⟨0, by omega, by go_num, Lib.hid (by simpa [rectP, ptCells] using World.ownsRow_nil W2 W2.heap.size 49 2), Lib.hid (bl_refl _)⟩
  case round =>
    obtain ⟨j, hj, rfl, hO, hbw⟩ := hrel
    have hszl := hbw.out.size
    have c2 := (hbw.out.cell (p := ⟨w.heap.size + 1, 1, none⟩) hl1).trans b2
    have c0 := (hbw.out.cell (p := ⟨w.heap.size, 0, none⟩) hl0).trans b0
    have l1 : w.heap.size + 1 < wr.heap.size := by omega
    have l0 : w.heap.size < wr.heap.size := by omega
    by_cases hjH : j < H
    · have hle : ly + (j : Int) ≤ hy := by have := hHH.out; omega
      obtain ⟨y, hy'⟩ : ∃ y, ly + (j : Int) = y := ⟨_, rfl⟩
      have hyr : -1000 ≤ y ∧ y ≤ 1200 := by omega
      rw [hy']
      rw [hy'] at hle
      have hyH := Lib.hid hy'
      have hmul := Lib.hid (show (j + 1) * W = j * W + W from Nat.succ_mul j W)
      have hmb : j * W ≤ 40000 := Nat.le_trans (Nat.mul_le_mul (show j ≤ 200 by omega) hW1) (by decide)
      obtain ⟨N, hN⟩ : ∃ N, j * W = N := ⟨_, rfl⟩
      rw [hN] at hO hmul hmb
      clear hy' hN
      obtain ⟨wo, hwo⟩ : ∃ wo : World, wo = wr := ⟨_, rfl⟩
      subst hwo
      go_wp2
      go_loopg [5, 7] W (fun g v x wz => ∃ (i : Nat), i + g = W ∧ x = .int .i64 (lx + (i : Int)) ∧ Hid (wz.ownsRow W2.heap.size 49 2 v (N + i) (ptCells (rectP lx ly W j ++ rowP lx y i))) ∧ Hid (Below W2.heap.size W2 wz))
      case atStart => exact ⟨0, by omega, by go_num, Lib.hid (by simpa [rowP_zero] using hO.out), hbw⟩
      case round =>
        clear c0 c2 l0 l1
        obtain ⟨i, hi', rfl, hR, hbz⟩ := hrel
        have hszz := hbz.out.size
        have c1 := (hbz.out.cell (p := ⟨w.heap.size + 1, 0, none⟩) hl1).trans b1
        have l1 : w.heap.size + 1 < wr.heap.size := by omega
        obtain ⟨A1, cp, rfl⟩ := ownsRow_form hR.out
        by_cases hiW : i < W
        · have hle2 : lx + (i : Int) ≤ hx := by have := hWH.out; omega
          obtain ⟨x, hx'⟩ : ∃ x, lx + (i : Int) = x := ⟨_, rfl⟩
          have hxr : -1000 ≤ x ∧ x ≤ 1200 := by omega
          have hsn := Lib.hid (show rectP lx ly W j ++ rowP lx y (i + 1) = (rectP lx ly W j ++ rowP lx y i) ++ [⟨x, y⟩] by rw [rowP_succ, hx', List.append_assoc])
          rw [hx']
          rw [hx'] at hle2
          have hxH := Lib.hid hx'
          clear hx'
          go_wp2_with (at_builtin; refine wpList_append_own_at _ rfl _ _ 24 rfl W2.heap.size 49 i0 (.agg #[.int .i64 0, .int .i64 0]) 2 16 Try.underlying24 hi hz0 hz1 hz2 rfl (by decide) (.slice A1 (N + i) cp) (N + i) (ptCells (rectP lx ly W j ++ rowP lx y i)) rfl (hR.out.alloc _) ⟨wr.heap.size, 0, none⟩ 1 1 [.int .i64 x, .int .i64 y] rfl rfl (cell_pt2 _ _ _ _) (fun x hx => by simp at hx; rcases hx with rfl | rfl <;> rfl) (by unfold maxLen; omega) (by omega) (by simp; omega) ?_; intro v5 w5 hown5 hgrow5 _ hat5; have hown5H := Lib.hid hown5; have hgrow5H := Lib.hid hgrow5; clear hown5 hgrow5 hat5)
          go_roundg (W - (i + 1))
          case measure => omega
          case rel =>
            refine ⟨i + 1, by omega, by rw [← hxH.out]; go_num, Lib.hid ?_, Lib.hid ?_⟩
            · rw [hsn.out, ptCells_snoc]; exact hown5H.out
            · exact hbz.out.trans (below_app hszz (fun g e => (hR.out.lt g e).1) hgrow5H.out)
        · obtain rfl : i = W := by omega
          have hle2 : ¬ lx + (i : Int) ≤ hx := by have := hWH.out; omega
          go_wp2
          go_roundg (H - (j + 1))
          case measure => omega
          case rel =>
            refine ⟨j + 1, by omega, by rw [← hyH.out]; go_num, Lib.hid ?_, hbz⟩
            simp only [rectP]
            rw [hmul.out, hyH.out]
            exact hR.out
    · obtain rfl : j = H := by omega
      have hle : ¬ ly + (j : Int) ≤ hy := by have := hHH.out; omega
      go_wp2
      go_ret
      exact ⟨_, rfl, ownsRow_baseQ hO.out (by have := hs2H.out; omega), hbW.trans (hbw.out.mono (by omega))⟩
end Go.Proofs.Ytkppijcjmhkkkaa
/- A set and an assembly that came in, and what the functions give on them. -/





namespace Go.Proofs.Ytkppijcjmhkkkaa
open Go.RowKit Go.Shelf
attribute [local go_sem] BelowBy.cell BelowBy.cell_drew stillUpon givesUpon

/-- a set and an assembly that came in -/
structure SA (w : World) (G : Option Addr) (n : Nat) (T : Option Addr) (m : Nat) (A : Option Addr) (q : Nat) (gs : List Gl) (ts : List Ti) (xs : List Pl) : Prop where
  G : RdSl 2 RGl w G n gs
  T : RdSl 2 RTi w T m ts
  A : RdSl 3 RPl w A q xs
  gm : n ≤ 1073741824
  tm : m ≤ 1073741824
  q : q ≤ 1073741824
  gn : ∀ (k : Nat) (e : Gl), gs[k]? = some e → e.name.size ≤ 9223372036854775807
  tn : ∀ (k : Nat) (e : Ti), ts[k]? = some e → e.name.size ≤ 9223372036854775807 ∧ e.sides.length ≤ 9223372036854775807
section
variable {w w' : World} {G T A : Option Addr} {n cg m ct q ca : Nat} {gs : List Gl} {ts : List Ti} {xs : List Pl}
theorem SA.below (h : SA w G n T m A q gs ts xs) (hb : Below w.heap.size w w') : SA w' G n T m A q gs ts xs :=
  ⟨h.G.below RGl.stable hb, h.T.below RTi.stable hb, h.A.below RPl.stable hb, h.gm, h.tm, h.q, h.gn, h.tn⟩
/-- the reference looks at them through pointers -/
structure SAt (w : World) (p op pa opa : Nat) (gs : List Gl) (ts : List Ti) (xs : List Pl) : Prop where
  s : SetAt w p op gs ts
  a : AsmAt w pa opa xs
  q : xs.length ≤ 1073741824
  gm : gs.length ≤ 1073741824
  tm : ts.length ≤ 1073741824
  gn : ∀ (k : Nat) (e : Gl), gs[k]? = some e → e.name.size ≤ 9223372036854775807
  tn : ∀ (k : Nat) (e : Ti), ts[k]? = some e → e.name.size ≤ 9223372036854775807 ∧ e.sides.length ≤ 9223372036854775807
theorem SAt.below {op opa : Nat} {p pa : Nat} (h : SAt w p op pa opa gs ts xs) (hb : Below w.heap.size w w') : SAt w' p op pa opa gs ts xs :=
  ⟨h.s.below hb, h.a.below hb, h.q, h.gm, h.tm, h.gn, h.tn⟩
end
theorem codeB_true : codeB true = 0 := rfl
theorem codeB_false : codeB false = 1 := rfl
theorem ownsRow_base {w : World} {base base' : Nat} {e : TypeId} {size : Nat} {v : Value} {n : Nat} {xs : List Value} (h : w.ownsRow base e size v n xs) (hb : base' ≤ base) : w.ownsRow base' e size v n xs :=
  ⟨h.1, h.2.imp id (fun ⟨g, cap, cur, h1, h2, h3⟩ => ⟨g, cap, cur, h1, Nat.le_trans hb h2, h3⟩)⟩
end Go.Proofs.Ytkppijcjmhkkkaa
/- Walks: the tile at a point; with what strength a tile binds at a point. -/

namespace Go.Proofs.Ytkppijcjmhkkkaa
open Go.RowKit Go.Shelf
attribute [local go_sem] BelowBy.cell BelowBy.cell_drew stillUpon givesUpon BelowBy.cell_drew2 BelowBy.cell_drew3

/-- the tile at a point, or -1 -/
noncomputable def atI (xs : List Pl) (x y : Int) : Int := if placeI xs x y < 0 then -1 else match xs[(placeI xs x y).toNat]? with
  | some e => e.t
  | none => -1
theorem atI_none {xs : List Pl} {x y : Int} (h : placeI xs x y = -1) : atI xs x y = -1 := by unfold atI; rw [h, if_pos (by decide)]
theorem atI_some {xs : List Pl} {x y : Int} {k : Nat} {e : Pl} (h : placeI xs x y = k) (he : xs[k]? = some e) : atI xs x y = e.t := by
  unfold atI; rw [h, if_neg (by omega)]
  have : ((k : Nat) : Int).toNat = k := by omega
  simp only [this, he]
theorem atI_cases {gs : List Gl} {ts : List Ti} {xs : List Pl} (hV : Valid gs ts xs) (x y : Int) : (placeI xs x y = -1 ∧ atI xs x y = -1) ∨ ∃ (k t : Nat) (e : Pl), placeI xs x y = k ∧ xs[k]? = some e ∧ e.t = t ∧ t < ts.length ∧ atI xs x y = t := by
  rcases placeI_cases xs x y with h | ⟨k, h, hk⟩
  · exact Or.inl ⟨h, atI_none h⟩
  · have he := List.getElem?_eq_getElem hk
    obtain ⟨t, ht, htl⟩ := hV.ti k _ he
    exact Or.inr ⟨k, t, _, h, he, ht, htl, by rw [atI_some h he, ht]⟩
noncomputable def bindN (gs : List Gl) (ts : List Ti) (xs : List Pl) (x y : Int) (t : Nat) : Nat → Int
  | 0 => 0
  | k + 1 => bindN gs ts xs x y t k + (if 0 ≤ atI xs (stepX x k) (stepY y k) then bondI gs ts t k (atI xs (stepX x k) (stepY y k)).toNat else 0)
theorem strI_nonneg {gs : List Gl} {ts : List Ti} {xs : List Pl} (hV : Valid gs ts xs) (v : Int) : 0 ≤ strI gs v := by
  unfold strI
  split
  · decide
  · split
    · decide
    · rename_i g hg
      have := (hV.str _ _ hg).1
      omega
theorem bondI_nonneg {gs : List Gl} {ts : List Ti} {xs : List Pl} (hV : Valid gs ts xs) (a d b : Nat) : 0 ≤ bondI gs ts a d b := by
  unfold bondI
  split
  · exact strI_nonneg hV _
  · decide
theorem bindN_bound {gs : List Gl} {ts : List Ti} {xs : List Pl} (hV : Valid gs ts xs) (x y : Int) (t k : Nat) : 0 ≤ bindN gs ts xs x y t k ∧ bindN gs ts xs x y t k ≤ 4 * (k : Int) := by
  induction k with
  | zero => simp [bindN]
  | succ k ih =>
    simp only [bindN]
    have h1 := bondI_nonneg hV t k (atI xs (stepX x k) (stepY y k)).toNat
    have h2 := bondI_le hV t k (atI xs (stepX x k) (stepY y k)).toNat
    split <;> omega
end Go.Proofs.Ytkppijcjmhkkkaa
