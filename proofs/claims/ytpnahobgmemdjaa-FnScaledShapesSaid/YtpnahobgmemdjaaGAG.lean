import Derived.Test.YtpnahobgmemdjaaGAF
import Derived.RangeFuncNested
import Derived.RangeFuncBound
import Derived.RangeFuncCalls
import Derived.RangeFuncLeaves
import Derived.RangeFuncBox
import Derived.Shelf.Abstract
import Derived.Shelf.RegionOpen
import Derived.OwnWalkIn
import Derived.TacticsInMore
import Derived.LoopNIn
import Derived.LoopIn
import Derived.Maps.AppendAt
import Derived.WalkSmall
import Derived.Test.YtpnahobgmemdjaaGAD
set_option linter.unusedSimpArgs false
set_option linter.unusedVariables false
/- The iterator over the neighbors. -/












namespace Go.Proofs.Ytpnahobgmemdjaa
open Go.RowKit Go.Shelf
attribute [local go_sem] BelowBy.cell BelowBy.cell_drew stillUpon givesUpon Oper.semAt_some

/-- Blocks of cells of other types lie as they lay. -/
def KeepT (t1 t2 : TypeId) (W W' : World) : Prop := ∀ (b : Nat) (cs : Array Value) (t : TypeId), W.heap[b]? = some (Obj.cells cs t) → t ≠ t1 → t ≠ t2 → W'.heap[b]? = some (Obj.cells cs t)
theorem KeepT.refl (t1 t2 : TypeId) (W : World) : KeepT t1 t2 W W := fun _ _ _ h _ _ => h
theorem KeepT.trans {t1 t2 : TypeId} {A B C : World} (h : KeepT t1 t2 A B) (k : KeepT t1 t2 B C) : KeepT t1 t2 A C := fun b cs t hb h1 h2 => k b cs t (h b cs t hb h1 h2) h1 h2
theorem KeepT.of_below {t1 t2 : TypeId} {W W' : World} (h : Below W.heap.size W W') : KeepT t1 t2 W W' := fun b cs t hb _ _ => (h.block b (Array.getElem?_eq_some_iff.1 hb).1).trans hb
theorem grown_below {w w' : World} (h : Below w.heap.size w w') (row : Option Nat) : w.grownBy w' row := ⟨h.os, h.tape, h.output, h.size, fun k hk _ => h.block k hk⟩
/-- one neighbor: the place, its neighbor's place, the direction -/
abbrev NbT (xs : List Pl) : Type := { x : Nat × Nat × Nat // x.1 < xs.length ∧ x.2.1 < xs.length ∧ x.2.2 < 4 }
open Classical in
noncomputable def nb (xs : List Pl) (i d : Nat) : List (NbT xs) := match xs[i]? with
  | none => []
  | some e => if h : 0 ≤ placeI xs (stepX e.x d) (stepY e.y d) ∧ (i < xs.length ∧ (placeI xs (stepX e.x d) (stepY e.y d)).toNat < xs.length ∧ d < 4) then [⟨(i, (placeI xs (stepX e.x d) (stepY e.y d)).toNat, d), h.2⟩] else []
noncomputable def nbAll (xs : List Pl) : Nat → List (NbT xs)
  | 0 => []
  | i + 1 => nbAll xs i ++ (nb xs i 1 ++ nb xs i 0)
theorem placeI_is (xs : List Pl) (x y : Int) : IsPlace xs x y (placeI xs x y) := by
  apply Classical.epsilon_spec (p := IsPlace xs x y)
  by_cases h : ∃ (k : Nat) (e : Pl), xs[k]? = some e ∧ e.x = x ∧ e.y = y
  · obtain ⟨k, e, he, hx, hy⟩ := h
    exact ⟨k, Or.inr ⟨k, e, rfl, he, hx, hy⟩⟩
  · exact ⟨-1, Or.inl ⟨rfl, fun k e he hxy => h ⟨k, e, he, hxy.1, hxy.2⟩⟩⟩
theorem placeI_cases (xs : List Pl) (x y : Int) : placeI xs x y = -1 ∨ ∃ k : Nat, placeI xs x y = k ∧ k < xs.length := by
  rcases placeI_is xs x y with ⟨h, _⟩ | ⟨k, e, h, he, _⟩
  · exact Or.inl h
  · exact Or.inr ⟨k, h, lt_of_get he⟩
theorem nb_none {xs : List Pl} {i d : Nat} {e : Pl} (he : xs[i]? = some e) (h : placeI xs (stepX e.x d) (stepY e.y d) = -1) : nb xs i d = [] := by
  unfold nb; simp only [he]
  rw [dif_neg]
  rw [h]; rintro ⟨h, _⟩; omega
theorem nb_some {xs : List Pl} {i d k : Nat} {e : Pl} (he : xs[i]? = some e) (hd : d < 4) (h : placeI xs (stepX e.x d) (stepY e.y d) = k) (hk : k < xs.length) : nb xs i d = [⟨(i, k, d), lt_of_get he, hk, hd⟩] := by
  unfold nb; simp only [he]
  have : (placeI xs (stepX e.x d) (stepY e.y d)).toNat = k := by omega
  rw [dif_pos ⟨by omega, lt_of_get he, by omega, hd⟩]
  congr 1
  apply Subtype.ext
  simp only [this]
theorem nb_len (xs : List Pl) (i d : Nat) : (nb xs i d).length ≤ 1 := by
  unfold nb
  split
  · simp
  · split <;> simp
theorem nbAll_len (xs : List Pl) (i : Nat) : (nbAll xs i).length ≤ 2 * i := by
  induction i with
  | zero => simp [nbAll]
  | succ i ih =>
    have h1 := nb_len xs i 1
    have h0 := nb_len xs i 0
    simp only [nbAll, List.length_append]; omega
def dirOf (j : Nat) : Nat := if j = 0 then 1 else 0
/-- what has come when j directions of place i are over -/
noncomputable def nbUpto (xs : List Pl) (i j : Nat) : List (NbT xs) := nbAll xs i ++ ((if 1 ≤ j then nb xs i 1 else []) ++ (if 2 ≤ j then nb xs i 0 else []))
theorem nbUpto_zero (xs : List Pl) (i : Nat) : nbUpto xs i 0 = nbAll xs i := by simp [nbUpto]
theorem nbUpto_two (xs : List Pl) (i : Nat) : nbUpto xs i 2 = nbAll xs (i + 1) := by simp [nbUpto, nbAll]
theorem nbUpto_succ (xs : List Pl) (i j : Nat) (hj : j < 2) : nbUpto xs i (j + 1) = nbUpto xs i j ++ nb xs i (dirOf j) := by
  have : j = 0 ∨ j = 1 := by omega
  rcases this with rfl | rfl <;> simp [nbUpto, dirOf]
theorem nbUpto_len (xs : List Pl) (i j : Nat) : (nbUpto xs i j).length ≤ 2 * i + 2 := by
  have h := nbAll_len xs i
  have h1 := nb_len xs i 1
  have h0 := nb_len xs i 0
  unfold nbUpto
  simp only [List.length_append]
  split <;> split <;> simp <;> omega
def encN {xs : List Pl} (x : NbT xs) : Array Value := #[.agg #[.int .i64 (x.1.1 : Int), .int .i64 (x.1.2.1 : Int)], .int .i64 (x.1.2.2 : Int)]
theorem step_at {x y d x' y' : Int} {w : World} (k : Nat) (hd : d = k) (h4 : k < 4) (hx : -1000 ≤ x ∧ x ≤ 1000) (hy : -1000 ≤ y ∧ y ≤ 1000) (h1 : stepX x k = x') (h2 : stepY y k = y') :
    Calls Try.prog 69 #[.agg #[.int .i64 x, .int .i64 y], .int .i64 d] w fun e w' => e = .returned (.agg #[.int .i64 x', .int .i64 y']) ∧ Below w.heap.size w w' := by
  subst hd h1 h2; exact step_any _ _ _ _ h4 hx hy
end Go.Proofs.Ytpnahobgmemdjaa
/- The program's list of bonds. -/



namespace Go.Proofs.Ytpnahobgmemdjaa
open Go.RowKit Go.Shelf
attribute [local go_sem] BelowBy.cell BelowBy.cell_drew stillUpon givesUpon Oper.semAt_some

theorem cell_three_new (w : World) (a b c : Value) (t : TypeId) : ∀ j u, [a, b, c][j]? = some u → (w.alloc (.cells #[a, b, c] t)).cell? ((⟨w.heap.size, 0, none⟩ : Addr).add j) = some u := by
  intro j u hj
  match j, hj with
  | 0, hj => simp at hj; subst hj; simp [Addr.add]
  | 1, hj => simp at hj; subst hj; simp [Addr.add]
  | 2, hj => simp at hj; subst hj; simp [Addr.add]
  | j + 3, hj => simp at hj
structure Bd where
  a : Nat
  b : Nat
  s : Int
def tileN (xs : List Pl) (i : Nat) : Nat := match xs[i]? with
  | none => 0
  | some e => e.t.toNat
def bdS (gs : List Gl) (ts : List Ti) {xs : List Pl} (x : NbT xs) : Int := bondI gs ts (tileN xs x.1.1) x.1.2.2 (tileN xs x.1.2.1)
def bdL (gs : List Gl) (ts : List Ti) {xs : List Pl} (l : List (NbT xs)) : List Bd := l.filterMap fun x => if 0 < bdS gs ts x then some ⟨x.1.1, x.1.2.1, bdS gs ts x⟩ else none
theorem bdL_hit {gs : List Gl} {ts : List Ti} {xs : List Pl} (l : List (NbT xs)) {x : NbT xs} (h : 0 < bdS gs ts x) : bdL gs ts (l ++ [x]) = bdL gs ts l ++ [⟨x.1.1, x.1.2.1, bdS gs ts x⟩] := by
  simp [bdL, h]
theorem bdL_miss {gs : List Gl} {ts : List Ti} {xs : List Pl} (l : List (NbT xs)) {x : NbT xs} (h : ¬ 0 < bdS gs ts x) : bdL gs ts (l ++ [x]) = bdL gs ts l := by
  simp [bdL, h]
theorem bdL_len (gs : List Gl) (ts : List Ti) {xs : List Pl} (l : List (NbT xs)) : (bdL gs ts l).length ≤ l.length := List.length_filterMap_le _ _
noncomputable def bondsL (gs : List Gl) (ts : List Ti) (xs : List Pl) : List Bd := bdL gs ts (nbAll xs xs.length)
def bdCells : List Bd → List Value
  | [] => []
  | b :: l => .int .i64 b.a :: .int .i64 b.b :: .int .i64 b.s :: bdCells l
theorem bdCells_snoc (l : List Bd) (b : Bd) : bdCells (l ++ [b]) = bdCells l ++ [.int .i64 b.a, .int .i64 b.b, .int .i64 b.s] := by
  induction l with
  | nil => rfl
  | cons c l ih => simp [bdCells, ih]
theorem heap_own {β : Type} (B : Nat) (cs : Array Value) (t : TypeId) : Own (fun (_ : β) W => W.heap[B]? = some (Obj.cells cs t)) := fun s X Y row h hg hrow => by
  refine (hg.block B (Array.getElem?_eq_some_iff.1 h).1 (fun e => ?_)).trans h
  obtain ⟨o, ho, hc⟩ := hrow B e.symm
  rw [h] at ho
  obtain rfl := Option.some.inj ho
  cases hc
theorem KeepsFrom.of_below {B : Nat} {W W' : World} (h : Below W.heap.size W W') : KeepsFrom B W W' := ⟨h.size, fun k o _ hk _ => (h.block k (Array.getElem?_eq_some_iff.1 hk).1).trans hk⟩
theorem ownsRow_below {w w' : World} {base : Nat} {e : TypeId} {size : Nat} {v : Value} {n : Nat} {xs : List Value} (h : w.ownsRow base e size v n xs) (hb : Below w.heap.size w w') : w'.ownsRow base e size v n xs :=
  h.kept (grown_below hb none) (Classical.em _)
theorem KeepT.appended {W w1 : World} {n₀ B : Nat} {t e : TypeId} {size : Nat} {v v' : Value} {k : Nat} {xs : List Value} {tmp : Obj} (hv : Boxed W B t v) (hrow : W.ownsRow n₀ e size v k xs) (hgrow : (W.alloc tmp).grownBy w1 v.ownBlock) :
    KeepT t e W (w1.setCell ⟨B, 0, none⟩ v') := by
  intro b cs t' hb h1 h2
  have hlt := (Array.getElem?_eq_some_iff.1 hb).1
  have hbB : b ≠ B := by
    intro e'
    subst e'
    rw [show W.heap[b]? = _ from hv] at hb
    simp at hb
    exact h1 hb.2.symm
  have hne : some b ≠ v.ownBlock := by
    rcases hrow.2 with ⟨rfl, _⟩ | ⟨g, cap, cur, rfl, _, hgb, _⟩
    · simp [Value.ownBlock]
    · intro e'
      obtain rfl : b = g := by simpa [Value.ownBlock] using e'
      rw [hgb] at hb
      simp at hb
      exact h2 hb.2.symm
  rw [Below.heap_setCell _ _ _ _ hbB]
  exact (hgrow.block b (by simp; omega) hne).trans ((Below.heap_alloc _ _ _ hlt).trans hb)
end Go.Proofs.Ytpnahobgmemdjaa
/- Walks: the harness' marks: what is laid of arguments and results is overwritten, and nothing else. -/


namespace Go.Proofs.Ytpnahobgmemdjaa
open Go.RowKit
attribute [local go_sem] BelowBy.cell BelowBy.cell_drew stillUpon givesUpon

/-- from w to w' the blocks from lo on and below hi may have turned; what is new lies behind -/
structure Mk (lo hi : Nat) (w w' : World) : Prop where
  below : Below lo w w'
  size : w.heap.size ≤ w'.heap.size
  keep : ∀ k, hi ≤ k → k < w.heap.size → w'.heap[k]? = w.heap[k]?
theorem Mk.refl (lo hi : Nat) (w : World) : Mk lo hi w w := ⟨Below.refl _ _, Nat.le_refl _, fun _ _ _ => rfl⟩
theorem Mk.trans {lo hi : Nat} {a b c : World} (h : Mk lo hi a b) (k : Mk lo hi b c) : Mk lo hi a c :=
  ⟨h.below.trans k.below, Nat.le_trans h.size k.size, fun i h1 h2 => (k.keep i h1 (Nat.lt_of_lt_of_le h2 h.size)).trans (h.keep i h1 h2)⟩
theorem Mk.of_below {lo hi : Nat} {a b : World} (h : Below a.heap.size a b) (hl : lo ≤ a.heap.size) : Mk lo hi a b := ⟨h.mono hl, h.size, fun i _ h2 => h.block i h2⟩
theorem Mk.set {lo hi : Nat} {a b : World} (h : Mk lo hi a b) {p : Addr} (h1 : lo ≤ p.block) (h2 : p.block < hi) (u : Value) : Mk lo hi a (b.setCell p u) :=
  ⟨h.below.setCell h1 u, by simpa using h.size, fun i h3 h4 => (Below.heap_setCell _ _ _ _ (by omega)).trans (h.keep i h3 h4)⟩
theorem Mk.bl {lo hi : Nat} {a b c : World} (h : Mk lo hi a b) (k : Below b.heap.size b c) (hl : lo ≤ a.heap.size) : Mk lo hi a c := h.trans (Mk.of_below k (Nat.le_trans hl h.size))
theorem Mk.weaken {lo hi lo' hi' : Nat} {a b : World} (h : Mk lo hi a b) (h1 : lo' ≤ lo) (h2 : hi ≤ hi') : Mk lo' hi' a b := ⟨h.below.mono h1, h.size, fun i h3 h4 => h.keep i (by omega) h4⟩

/-- a row of its own that the call may overwrite -/
def MkRow (T : TypeId) (size lo hi : Nat) (w : World) (A : Option Addr) (n : Nat) : Prop :=
  0 < n → ∃ g N f, A = some ⟨g, 0, none⟩ ∧ lo ≤ g ∧ g < hi ∧ w.rowIs g T N f ∧ n * size ≤ N
theorem OwSl.mk_ {α : Type} {T size : Nat} {R : World → Nat → Nat → α → Prop} {w : World} {lo : Nat} {A : Option Addr} {n : Nat} {xs : List α} (h : OwSl T size R w lo A n xs) : MkRow T size lo w.heap.size w A n := fun _ => by
  obtain ⟨g, f, hA, hlo, hr, _⟩ := h.row
  exact ⟨g, _, f, hA, hlo, hr.lt, hr, Nat.le_refl _⟩
theorem mkRow_of_owns {w : World} {base size n c : Nat} {e : TypeId} {A : Option Addr} {xs : List Value} (h : w.ownsRow base e size (.slice A n c) n xs) : MkRow e size base w.heap.size w A n := fun hn => by
  rcases h.2 with ⟨h, h0⟩ | ⟨g, cap, cur, hv, hb, hh, hnc, hm, hs, ht⟩
  · omega
  · injection hv with h1 h2 h3
    exact ⟨g, cur.size, fun i => cur.getD i undef, h1, hb, (Array.getElem?_eq_some_iff.1 hh).1, ⟨cur, hh, rfl, fun i hi => by simp [hi]⟩, by rw [hs]; exact Nat.mul_le_mul_right _ hnc⟩
theorem MkRow.keep {T : TypeId} {size lo hi : Nat} {w w' : World} {A : Option Addr} {n : Nat} (h : MkRow T size lo hi w A n) (hk : ∀ k, lo ≤ k → k < hi → w'.heap[k]? = w.heap[k]?) : MkRow T size lo hi w' A n := fun hn => by
  obtain ⟨g, N, f, h1, h2, h3, h4, h5⟩ := h hn
  exact ⟨g, N, f, h1, h2, h3, h4.of_block (hk g h2 h3), h5⟩
theorem MkRow.below {T : TypeId} {size lo hi : Nat} {w w' : World} {A : Option Addr} {n : Nat} (h : MkRow T size lo hi w A n) (hb : Below w.heap.size w w') (hh : hi ≤ w.heap.size) : MkRow T size lo hi w' A n := h.keep fun k _ h2 => hb.block k (by omega)
theorem MkRow.mk {T : TypeId} {size lo hi lo' hi' : Nat} {w w' : World} {A : Option Addr} {n : Nat} (h : MkRow T size lo hi w A n) (hb : Mk lo' hi' w w') (h1 : hi' ≤ lo) (hh : hi ≤ w.heap.size) : MkRow T size lo hi w' A n := h.keep fun k h2 h3 => hb.keep k (by omega) (by omega)
theorem MkRow.set {T : TypeId} {size lo hi : Nat} {w : World} {A : Option Addr} {n : Nat} (h : MkRow T size lo hi w A n) (b k : Nat) (u : Value) : MkRow T size lo hi (w.setCell ⟨b, k, none⟩ u) A n := fun hn => by
  obtain ⟨g, N, f, h1, h2, h3, h4, h5⟩ := h hn
  by_cases e : g = b
  · subst e
    exact ⟨g, N, _, h1, h2, h3, h4.set k u, h5⟩
  · exact ⟨g, N, f, h1, h2, h3, h4.of_block (Below.heap_setCell _ _ _ _ e), h5⟩
/-- rows of tiles, with the rows of their sides -/
def MkTiles (TT TI lo hi : Nat) (w : World) (A : Option Addr) (m : Nat) : Prop :=
  0 < m → ∃ g N f, A = some ⟨g, 0, none⟩ ∧ lo ≤ g ∧ g < hi ∧ w.rowIs g TT N f ∧ m * 2 ≤ N ∧ ∀ k, k < m → ∃ A' n', f (k * 2 + 1) = .slice A' n' n' ∧ n' ≤ 1073741824 ∧ MkRow TI 1 lo hi w A' n'
theorem OwSl.mkTiles {TT TI lo : Nat} {w : World} {A : Option Addr} {m : Nat} {ts : List Ti} (h : OwSl TT 2 (ROTi TI lo) w lo A m ts) (hs : ∀ e ∈ ts, e.sides.length ≤ 1073741824) : MkTiles TT TI lo w.heap.size w A m := fun _ => by
  obtain ⟨g, f, hA, hlo, hr, he⟩ := h.row
  refine ⟨g, _, f, hA, hlo, hr.lt, hr, Nat.le_refl _, fun k hk => ?_⟩
  have hk' : k < ts.length := by rw [h.len]; exact hk
  obtain ⟨h1, A', n', h2, h3⟩ := he k _ (List.getElem?_eq_getElem hk')
  have h4 := hr.cell (i := k * 2 + 1) (by omega)
  rw [h2] at h4
  exact ⟨A', n', (Option.some.inj h4).symm, by rw [← h3.len]; exact hs _ (List.getElem_mem hk'), h3.mk_⟩
theorem MkTiles.keep {TT TI lo hi : Nat} {w w' : World} {A : Option Addr} {m : Nat} (h : MkTiles TT TI lo hi w A m) (hk : ∀ k, lo ≤ k → k < hi → w'.heap[k]? = w.heap[k]?) : MkTiles TT TI lo hi w' A m := fun hm => by
  obtain ⟨g, N, f, h1, h2, h3, h4, h5, h6⟩ := h hm
  refine ⟨g, N, f, h1, h2, h3, h4.of_block (hk g h2 h3), h5, fun k hk' => ?_⟩
  obtain ⟨A', n', g1, g2, g3⟩ := h6 k hk'
  exact ⟨A', n', g1, g2, g3.keep hk⟩
theorem MkTiles.below {TT TI lo hi : Nat} {w w' : World} {A : Option Addr} {m : Nat} (h : MkTiles TT TI lo hi w A m) (hb : Below w.heap.size w w') (hh : hi ≤ w.heap.size) : MkTiles TT TI lo hi w' A m := h.keep fun k _ h2 => hb.block k (by omega)
theorem MkTiles.mk {TT TI lo hi lo' hi' : Nat} {w w' : World} {A : Option Addr} {n : Nat} (h : MkTiles TT TI lo hi w A n) (hb : Mk lo' hi' w w') (h1 : hi' ≤ lo) (hh : hi ≤ w.heap.size) : MkTiles TT TI lo hi w' A n := h.keep fun k h2 h3 => hb.keep k (by omega) (by omega)
theorem MkTiles.set {TT TI lo hi : Nat} {w : World} {A : Option Addr} {m : Nat} (hne : TT ≠ TI) (h : MkTiles TT TI lo hi w A m) {b k : Nat} {u : Value} (hb : ∃ N f, w.rowIs b TI N f) : MkTiles TT TI lo hi (w.setCell ⟨b, k, none⟩ u) A m := fun hm => by
  obtain ⟨g, N, f, h1, h2, h3, h4, h5, h6⟩ := h hm
  have hgb : g ≠ b := by
    rintro rfl
    obtain ⟨N', f', c', hc', _⟩ := hb
    obtain ⟨c, hc, _⟩ := h4
    rw [hc] at hc'
    injection hc' with hc'
    injection hc' with _ ht
    exact hne ht
  refine ⟨g, N, f, h1, h2, h3, h4.of_block (Below.heap_setCell _ _ _ _ hgb), h5, fun k' hk' => ?_⟩
  obtain ⟨A', n', g1, g2, g3⟩ := h6 k' hk'
  exact ⟨A', n', g1, g2, g3.set b k u⟩
theorem MkTiles.setName {TT TI lo hi : Nat} {w : World} {A : Option Addr} {m : Nat} (hne : TT ≠ TI) (h : MkTiles TT TI lo hi w A m) {b : Nat} (hA : A = some ⟨b, 0, none⟩) (k : Nat) (u : Value) : MkTiles TT TI lo hi (w.setCell ⟨b, k * 2, none⟩ u) A m := fun hm => by
  obtain ⟨g, N, f, h1, h2, h3, h4, h5, h6⟩ := h hm
  obtain rfl : g = b := by
    rw [hA] at h1
    injection h1 with h1
    injection h1 with h1
    exact h1.symm
  refine ⟨g, N, _, h1, h2, h3, h4.set (k * 2) u, h5, fun k' hk' => ?_⟩
  obtain ⟨A', n', g1, g2, g3⟩ := h6 k' hk'
  exact ⟨A', n', by rw [if_neg (by omega)]; exact g1, g2, g3.set g (k * 2) u⟩

end Go.Proofs.Ytpnahobgmemdjaa
