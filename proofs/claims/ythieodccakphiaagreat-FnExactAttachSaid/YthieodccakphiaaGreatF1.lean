/- The network of capacities and flows in memory; whether there is room. -/
import Derived.Test.YthieodccakphiaaGreatN1
import Derived.Test.YthieodccakphiaaGreatW17a
namespace Go.Proofs.YthieodccakphiaaGreat
open Go.RowKit Go.Shelf
set_option linter.unusedSimpArgs false
set_option linter.unusedVariables false
attribute [local go_sem] BelowBy.cell BelowBy.cell_drew stillUpon givesUpon BelowBy.cell_drew2 BelowBy.cell_drew3

def rowZ (M : Nat → Nat → Int) (n u : Nat) : List Value := (List.range n).map fun v => Value.int .i64 (M u v)
theorem rowZ_len (M : Nat → Nat → Int) (n u : Nat) : (rowZ M n u).length = n := by simp [rowZ]
theorem rowZ_get {M : Nat → Nat → Int} {n u v : Nat} (h : v < n) : (rowZ M n u)[v]? = some (.int .i64 (M u v)) := by simp [rowZ, h]
def rowsZ (M : Nat → Nat → Int) (n m : Nat) : List (List Value) := (List.range m).map (rowZ M n)
theorem rowsZ_len (M : Nat → Nat → Int) (n m : Nat) : (rowsZ M n m).length = m := by simp [rowsZ]
theorem rowsZ_get {M : Nat → Nat → Int} {n m u : Nat} (h : u < m) : (rowsZ M n m)[u]? = some (rowZ M n u) := by simp [rowsZ, h]
/-- a square of numbers: v owns n rows of n numbers -/
def Mat (w : World) (base : Nat) (v : Value) (us : List Value) (n : Nat) (M : Nat → Nat → Int) : Prop := Own2 w base 103 2 1 v us (rowsZ M n n)
theorem Mat.len {w : World} {base n : Nat} {v : Value} {us : List Value} {M : Nat → Nat → Int} (h : Mat w base v us n M) : us.length = n := (Own2.len h).trans (rowsZ_len _ _ _)
theorem Mat.at {w : World} {base n u : Nat} {v : Value} {us : List Value} {M : Nat → Nat → Int} (h : Mat w base v us n M) (hu : u < n) :
    ∃ g cap g' cap', v = .slice (some ⟨g, 0, none⟩) n cap ∧ w.cell? ⟨g, u, none⟩ = some (.slice (some ⟨g', 0, none⟩) n cap') ∧ g < w.heap.size ∧ g' < w.heap.size ∧ base ≤ g ∧ base ≤ g' ∧ us[u]? = some (.slice (some ⟨g', 0, none⟩) n cap') ∧
      w.ownsRow base 2 1 (.slice (some ⟨g', 0, none⟩) n cap') n (rowZ M n u) ∧ ∀ j, j < n → w.cell? ⟨g', j, none⟩ = some (.int .i64 (M u j)) := by
  have hl := h.len
  obtain ⟨g, cap, rfl⟩ := Own2.formPos h hl (by omega)
  obtain ⟨x, hx⟩ : ∃ x, us[u]? = some x := ⟨_, List.getElem?_eq_getElem (by omega)⟩
  obtain ⟨m, r, hr, hown⟩ := Own2.get h hx
  rw [rowsZ_get hu] at hr
  obtain rfl := Option.some.inj hr
  have hm := hown.1
  rw [rowZ_len, Nat.mul_one] at hm
  subst hm
  rcases hown.2 with ⟨_, h0⟩ | ⟨g', cap', cur, rfl, hb, hh, _⟩
  · omega
  · have hc := Own2.cellAt h hl hx
    exact ⟨g, cap, g', cap', rfl, hc.1, hc.2.2, (Array.getElem?_eq_some_iff.1 hh).1, (Own2.lt h g rfl).1, hb, hx, hown, fun j hj => (hown.cellAt j (by omega)).trans (rowZ_get hj)⟩
/-- the blocks of a square -/
def InMat (v : Value) (us : List Value) (g : Nat) : Prop := v.ownBlock = some g ∨ ∃ (k : Nat) (u : Value), us[k]? = some u ∧ u.ownBlock = some g
theorem Mat.lt {w : World} {base n g : Nat} {v : Value} {us : List Value} {M : Nat → Nat → Int} (h : Mat w base v us n M) (hg : InMat v us g) : base ≤ g ∧ g < w.heap.size := by
  rcases hg with hg | ⟨k, u, hu, hg⟩
  · exact Own2.lt h g hg
  · exact Own2.ltIn h hu g hg
theorem Mat.kept {w w' : World} {base n : Nat} {v : Value} {us : List Value} {M : Nat → Nat → Int} {row : Option Nat} (h : Mat w base v us n M) (hg : w.grownBy w' row) (h1 : ∀ g, row = some g → ¬ InMat v us g) : Mat w' base v us n M :=
  Own2.kept h hg fun g e => ⟨fun e' => h1 g e (.inl e'), fun k u hu e' => h1 g e (.inr ⟨k, u, hu, e'⟩)⟩
/-- one number of it is stored -/
theorem Mat.store {w : World} {base n u j g' cap' : Nat} {v : Value} {us : List Value} {M : Nat → Nat → Int} (h : Mat w base v us n M) (hu : u < n) (hx : us[u]? = some (.slice (some ⟨g', 0, none⟩) n cap')) (x : Int) :
    Mat (w.setCell ⟨g', j, none⟩ (.int .i64 x)) base v us n (fun a b => if a = u ∧ b = j then x else M a b) := by
  have hgn : w.grownBy (w.setCell ⟨g', j, none⟩ (.int .i64 x)) (some g') := ⟨rfl, rfl, rfl, by simp, fun i hi hne => Below.heap_setCell _ _ _ _ (fun e => hne (by rw [e]))⟩
  refine ⟨Own2.outer h |>.kept hgn (.inr fun e => Own2.off h u _ g' hx rfl e), by rw [Own2.len h, rowsZ_len, rowsZ_len], fun k y r hy hr => ?_, Own2.apart h, Own2.off h⟩
  have hkn : k < n := by have := (List.getElem?_eq_some_iff.1 hy).1; rw [h.len] at this; exact this
  rw [rowsZ_get hkn] at hr
  obtain rfl := Option.some.inj hr
  obtain ⟨m, hown⟩ := Own2.inner h k y _ hy (rowsZ_get hkn)
  by_cases e : k = u
  · subst e
    rw [hx] at hy
    obtain rfl := Option.some.inj hy
    have hm := hown.1
    rw [rowZ_len, Nat.mul_one] at hm
    subst hm
    refine ⟨n, ?_⟩
    have hs := (hown.stored j (.int .i64 x)).1
    have : (rowZ M n k).set j (.int .i64 x) = rowZ (fun a b => if a = k ∧ b = j then x else M a b) n k := by
      apply List.ext_getElem?
      intro t
      rw [List.getElem?_set, rowZ_len]
      by_cases htn : t < n
      · rw [rowZ_get htn, rowZ_get htn]
        by_cases et : j = t
        · subst et; simp [htn]
        · rw [if_neg et, if_neg (fun c => et c.2.symm)]
      · rw [List.getElem?_eq_none (by rw [rowZ_len]; omega), List.getElem?_eq_none (by rw [rowZ_len]; omega)]
        split
        · rw [if_neg (by omega)]
        · rfl
    rw [this] at hs
    exact hs
  · refine ⟨m, ?_⟩
    have : rowZ (fun a b => if a = u ∧ b = j then x else M a b) n k = rowZ M n k := by
      unfold rowZ
      apply List.map_congr_left
      intro b _
      simp only [e, false_and, if_false]
    rw [this]
    refine hown.kept hgn ?_
    cases hb : y.ownBlock with
    | none => exact .inl rfl
    | some b => exact .inr fun e' => e (Own2.apart h k u y _ b hy hx hb (by rw [e']; rfl))
/-- the network: capacities R and flows F between n points -/
structure Net (w : World) (base p n : Nat) (R F : Nat → Nat → Int) (vR vF : Value) (uR uF : List Value) : Prop where
  lt : p < w.heap.size
  ge : base ≤ p
  room : w.cell? ⟨p, 0, none⟩ = some vR
  flow : w.cell? ⟨p, 1, none⟩ = some vF
  fr : w.frozen? ⟨p, 0, none⟩ = false ∧ w.frozen? ⟨p, 1, none⟩ = false
  R : Mat w base vR uR n R
  F : Mat w base vF uF n F
  off : ∀ g, InMat vR uR g → ¬ InMat vF uF g
  offp : ¬ InMat vR uR p ∧ ¬ InMat vF uF p
theorem Net.kept {w w' : World} {base p n : Nat} {R F : Nat → Nat → Int} {vR vF : Value} {uR uF : List Value} {row : Option Nat} (h : Net w base p n R F vR vF uR uF) (hg : w.grownBy w' row) (h1 : ∀ g, row = some g → g ≠ p ∧ ¬ InMat vR uR g ∧ ¬ InMat vF uF g) : Net w' base p n R F vR vF uR uF := by
  have hb := hg.block p h.lt (fun e => (h1 p e.symm).1 rfl)
  exact ⟨Nat.lt_of_lt_of_le h.lt hg.size, h.ge, (World.cell?_of_block (w := w) (a := ⟨p, 0, none⟩) hb).trans h.room, (World.cell?_of_block (w := w) (a := ⟨p, 1, none⟩) hb).trans h.flow,
    ⟨(World.frozen?_of_block (w := w) (a := ⟨p, 0, none⟩) hb).trans h.fr.1, (World.frozen?_of_block (w := w) (a := ⟨p, 1, none⟩) hb).trans h.fr.2⟩,
    h.R.kept hg (fun g e => (h1 g e).2.1), h.F.kept hg (fun g e => (h1 g e).2.2), h.off, h.offp⟩
theorem Net.below {w w' : World} {base p n : Nat} {R F : Nat → Nat → Int} {vR vF : Value} {uR uF : List Value} (h : Net w base p n R F vR vF uR uF) (hb : Below w.heap.size w w') : Net w' base p n R F vR vF uR uF :=
  h.kept (grown_below hb none) (fun g e => by cases e)
def freeE (R F : Nat → Nat → Int) (u v : Nat) : Bool := decide (F u v < R u v)
set_option maxRecDepth 100000 in
set_option maxHeartbeats 1000000 in
theorem free_any (base p n u v : Nat) (R F : Nat → Nat → Int) (vR vF : Value) (uR uF : List Value) (w : World) (h : Net w base p n R F vR vF uR uF) (hu : u < n) (hv : v < n) :
    Calls Tryz.prog 169 #[.pointer (some ⟨p, 0, none⟩), .int .i64 (u : Int), .int .i64 (v : Int)] w fun e w' => e = .returned (.bool (freeE R F u v)) ∧ Below w.heap.size w w' := by
  obtain ⟨g, cap, g', cap', rfl, c1, l1, l2, _, _, _, _, cRa⟩ := h.R.at hu
  obtain ⟨k, kap, k', kap', rfl, d1, m1, m2, _, _, _, _, cFa⟩ := h.F.at hu
  have cR := cRa v hv
  have cF := cFa v hv
  have hr := h.room
  have hf := h.flow
  have hl := h.lt
  obtain ⟨r, hrE⟩ : ∃ r, R u v = r := ⟨_, rfl⟩
  obtain ⟨f, hfE⟩ : ∃ f, F u v = f := ⟨_, rfl⟩
  have hE : freeE R F u v = decide (f < r) := by unfold freeE; rw [hrE, hfE]
  rw [hE]
  rw [hrE] at cR
  rw [hfE] at cF
  clear h hE hrE hfE cRa cFa
  go_enter Tryz.func169, Tryz.ntmps169
  go_wp2
  refine wp_region_ord [(0, .q), (1, .q), (2, .q), (3, .q), (4, .q), (5, .q), (6, .q), (7, .q), (8, .q), (9, .q), (10, .q), (11, .q), (12, .q), (13, .q), (14, .q), (15, .q), (16, .q), (17, .q), (18, .q), (19, .q), (20, .q), (21, .q)] (by kernel_rfl) (by kernel_rfl) ?_
  simp only [pick, List.filterMap_cons, List.filterMap_nil, List.getElem?_toArray, List.getElem?_cons_zero, List.getElem?_cons_succ, Option.map_some]
  repeat (first | ((with_reducible refine wpD_p (fun K hK => ?_)); go_simp; refine hK _ ?_; clear hK K) | ((with_reducible refine wpD_q (fun K hK => ?_)); go_simp; (first | refine hK _ ?_ | (go_bits; refine hK _ ?_) | (go_bits; go_simp; refine hK _ ?_)); clear hK K))
  with_reducible refine wpD_nil ?_
  go_wp2
  go_ret
  exact ⟨rfl, by exact bel_⟩
end Go.Proofs.YthieodccakphiaaGreat
