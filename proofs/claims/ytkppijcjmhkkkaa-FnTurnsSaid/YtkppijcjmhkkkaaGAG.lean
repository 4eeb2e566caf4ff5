import Derived.Test.YtkppijcjmhkkkaaGAF
import Derived.Maps.AppendAt
import Derived.WalkSmall
import Derived.Test.YtkppijcjmhkkkaaGAD
import Derived.Test.YtkppijcjmhkkkaaGAA
import Derived.Maps.OwnSet
import Derived.Maps.RangeWalk
import Derived.MapViews
import Derived.DeepKeys4
set_option linter.unusedSimpArgs false
set_option linter.unusedVariables false
/- The program's list of bonds. -/



namespace Go.Proofs.Ytkppijcjmhkkkaa
open Go.RowKit Go.Shelf
attribute [local go_sem] BelowBy.cell BelowBy.cell_drew stillUpon givesUpon Oper.semAt_some

theorem cell_three_new (w : World) (a b c : Value) (t : TypeId) : ∀ j u, [a, b, c][j]? = some u → (w.alloc (.cells #[a, b, c] t)).cell? ((⟨w.heap.size, 0, none⟩ : Addr).add j) = some u := by
  intro j u hj
  match j, hj with
  | 0, hj => simp at hj; subst hj; simp [Addr.add]
  | 1, hj => simp at hj; subst hj; simp [Addr.add]
  | 2, hj => simp at hj; subst hj; simp [Addr.add]
  | j + 3, hj => simp at hj
structure Bd where
  a : Nat
  b : Nat
  s : Int
def tileN (xs : List Pl) (i : Nat) : Nat := match xs[i]? with
  | none => 0
  | some e => e.t.toNat
def bdS (gs : List Gl) (ts : List Ti) {xs : List Pl} (x : NbT xs) : Int := bondI gs ts (tileN xs x.1.1) x.1.2.2 (tileN xs x.1.2.1)
def bdL (gs : List Gl) (ts : List Ti) {xs : List Pl} (l : List (NbT xs)) : List Bd := l.filterMap fun x => if 0 < bdS gs ts x then some ⟨x.1.1, x.1.2.1, bdS gs ts x⟩ else none
theorem bdL_hit {gs : List Gl} {ts : List Ti} {xs : List Pl} (l : List (NbT xs)) {x : NbT xs} (h : 0 < bdS gs ts x) : bdL gs ts (l ++ [x]) = bdL gs ts l ++ [⟨x.1.1, x.1.2.1, bdS gs ts x⟩] := by
  simp [bdL, h]
theorem bdL_miss {gs : List Gl} {ts : List Ti} {xs : List Pl} (l : List (NbT xs)) {x : NbT xs} (h : ¬ 0 < bdS gs ts x) : bdL gs ts (l ++ [x]) = bdL gs ts l := by
  simp [bdL, h]
theorem bdL_len (gs : List Gl) (ts : List Ti) {xs : List Pl} (l : List (NbT xs)) : (bdL gs ts l).length ≤ l.length := List.length_filterMap_le _ _
noncomputable def bondsL (gs : List Gl) (ts : List Ti) (xs : List Pl) : List Bd := bdL gs ts (nbAll xs xs.length)
def bdCells : List Bd → List Value
  | [] => []
  | b :: l => .int .i64 b.a :: .int .i64 b.b :: .int .i64 b.s :: bdCells l
theorem bdCells_snoc (l : List Bd) (b : Bd) : bdCells (l ++ [b]) = bdCells l ++ [.int .i64 b.a, .int .i64 b.b, .int .i64 b.s] := by
  induction l with
  | nil => rfl
  | cons c l ih => simp [bdCells, ih]
theorem heap_own {β : Type} (B : Nat) (cs : Array Value) (t : TypeId) : Own (fun (_ : β) W => W.heap[B]? = some (Obj.cells cs t)) := fun s X Y row h hg hrow => by
  refine (hg.block B (Array.getElem?_eq_some_iff.1 h).1 (fun e => ?_)).trans h
  obtain ⟨o, ho, hc⟩ := hrow B e.symm
  rw [h] at ho
  obtain rfl := Option.some.inj ho
  cases hc
theorem KeepsFrom.of_below {B : Nat} {W W' : World} (h : Below W.heap.size W W') : KeepsFrom B W W' := ⟨h.size, fun k o _ hk _ => (h.block k (Array.getElem?_eq_some_iff.1 hk).1).trans hk⟩
theorem ownsRow_below {w w' : World} {base : Nat} {e : TypeId} {size : Nat} {v : Value} {n : Nat} {xs : List Value} (h : w.ownsRow base e size v n xs) (hb : Below w.heap.size w w') : w'.ownsRow base e size v n xs :=
  h.kept (grown_below hb none) (Classical.em _)
theorem KeepT.appended {W w1 : World} {n₀ B : Nat} {t e : TypeId} {size : Nat} {v v' : Value} {k : Nat} {xs : List Value} {tmp : Obj} (hv : Boxed W B t v) (hrow : W.ownsRow n₀ e size v k xs) (hgrow : (W.alloc tmp).grownBy w1 v.ownBlock) :
    KeepT t e W (w1.setCell ⟨B, 0, none⟩ v') := by
  intro b cs t' hb h1 h2
  have hlt := (Array.getElem?_eq_some_iff.1 hb).1
  have hbB : b ≠ B := by
    intro e'
    subst e'
    rw [show W.heap[b]? = _ from hv] at hb
    simp at hb
    exact h1 hb.2.symm
  have hne : some b ≠ v.ownBlock := by
    rcases hrow.2 with ⟨rfl, _⟩ | ⟨g, cap, cur, rfl, _, hgb, _⟩
    · simp [Value.ownBlock]
    · intro e'
      obtain rfl : b = g := by simpa [Value.ownBlock] using e'
      rw [hgb] at hb
      simp at hb
      exact h2 hb.2.symm
  rw [Below.heap_setCell _ _ _ _ hbB]
  exact (hgrow.block b (by simp; omega) hne).trans ((Below.heap_alloc _ _ _ hlt).trans hb)
end Go.Proofs.Ytkppijcjmhkkkaa
/- Walks: the harness' marks: what is laid of arguments and results is overwritten, and nothing else. -/


namespace Go.Proofs.Ytkppijcjmhkkkaa
open Go.RowKit
attribute [local go_sem] BelowBy.cell BelowBy.cell_drew stillUpon givesUpon

/-- from w to w' the blocks from lo on and below hi may have turned; what is new lies behind -/
structure Mk (lo hi : Nat) (w w' : World) : Prop where
  below : Below lo w w'
  size : w.heap.size ≤ w'.heap.size
  keep : ∀ k, hi ≤ k → k < w.heap.size → w'.heap[k]? = w.heap[k]?
theorem Mk.refl (lo hi : Nat) (w : World) : Mk lo hi w w := ⟨Below.refl _ _, Nat.le_refl _, fun _ _ _ => rfl⟩
theorem Mk.trans {lo hi : Nat} {a b c : World} (h : Mk lo hi a b) (k : Mk lo hi b c) : Mk lo hi a c :=
  ⟨h.below.trans k.below, Nat.le_trans h.size k.size, fun i h1 h2 => (k.keep i h1 (Nat.lt_of_lt_of_le h2 h.size)).trans (h.keep i h1 h2)⟩
theorem Mk.of_below {lo hi : Nat} {a b : World} (h : Below a.heap.size a b) (hl : lo ≤ a.heap.size) : Mk lo hi a b := ⟨h.mono hl, h.size, fun i _ h2 => h.block i h2⟩
theorem Mk.set {lo hi : Nat} {a b : World} (h : Mk lo hi a b) {p : Addr} (h1 : lo ≤ p.block) (h2 : p.block < hi) (u : Value) : Mk lo hi a (b.setCell p u) :=
  ⟨h.below.setCell h1 u, by simpa using h.size, fun i h3 h4 => (Below.heap_setCell _ _ _ _ (by omega)).trans (h.keep i h3 h4)⟩
theorem Mk.bl {lo hi : Nat} {a b c : World} (h : Mk lo hi a b) (k : Below b.heap.size b c) (hl : lo ≤ a.heap.size) : Mk lo hi a c := h.trans (Mk.of_below k (Nat.le_trans hl h.size))
theorem Mk.weaken {lo hi lo' hi' : Nat} {a b : World} (h : Mk lo hi a b) (h1 : lo' ≤ lo) (h2 : hi ≤ hi') : Mk lo' hi' a b := ⟨h.below.mono h1, h.size, fun i h3 h4 => h.keep i (by omega) h4⟩

/-- a row of its own that the call may overwrite -/
def MkRow (T : TypeId) (size lo hi : Nat) (w : World) (A : Option Addr) (n : Nat) : Prop :=
  0 < n → ∃ g N f, A = some ⟨g, 0, none⟩ ∧ lo ≤ g ∧ g < hi ∧ w.rowIs g T N f ∧ n * size ≤ N
theorem OwSl.mk_ {α : Type} {T size : Nat} {R : World → Nat → Nat → α → Prop} {w : World} {lo : Nat} {A : Option Addr} {n : Nat} {xs : List α} (h : OwSl T size R w lo A n xs) : MkRow T size lo w.heap.size w A n := fun _ => by
  obtain ⟨g, f, hA, hlo, hr, _⟩ := h.row
  exact ⟨g, _, f, hA, hlo, hr.lt, hr, Nat.le_refl _⟩
theorem mkRow_of_owns {w : World} {base size n c : Nat} {e : TypeId} {A : Option Addr} {xs : List Value} (h : w.ownsRow base e size (.slice A n c) n xs) : MkRow e size base w.heap.size w A n := fun hn => by
  rcases h.2 with ⟨h, h0⟩ | ⟨g, cap, cur, hv, hb, hh, hnc, hm, hs, ht⟩
  · omega
  · injection hv with h1 h2 h3
    exact ⟨g, cur.size, fun i => cur.getD i undef, h1, hb, (Array.getElem?_eq_some_iff.1 hh).1, ⟨cur, hh, rfl, fun i hi => by simp [hi]⟩, by rw [hs]; exact Nat.mul_le_mul_right _ hnc⟩
theorem MkRow.keep {T : TypeId} {size lo hi : Nat} {w w' : World} {A : Option Addr} {n : Nat} (h : MkRow T size lo hi w A n) (hk : ∀ k, lo ≤ k → k < hi → w'.heap[k]? = w.heap[k]?) : MkRow T size lo hi w' A n := fun hn => by
  obtain ⟨g, N, f, h1, h2, h3, h4, h5⟩ := h hn
  exact ⟨g, N, f, h1, h2, h3, h4.of_block (hk g h2 h3), h5⟩
theorem MkRow.below {T : TypeId} {size lo hi : Nat} {w w' : World} {A : Option Addr} {n : Nat} (h : MkRow T size lo hi w A n) (hb : Below w.heap.size w w') (hh : hi ≤ w.heap.size) : MkRow T size lo hi w' A n := h.keep fun k _ h2 => hb.block k (by omega)
theorem MkRow.mk {T : TypeId} {size lo hi lo' hi' : Nat} {w w' : World} {A : Option Addr} {n : Nat} (h : MkRow T size lo hi w A n) (hb : Mk lo' hi' w w') (h1 : hi' ≤ lo) (hh : hi ≤ w.heap.size) : MkRow T size lo hi w' A n := h.keep fun k h2 h3 => hb.keep k (by omega) (by omega)
theorem MkRow.set {T : TypeId} {size lo hi : Nat} {w : World} {A : Option Addr} {n : Nat} (h : MkRow T size lo hi w A n) (b k : Nat) (u : Value) : MkRow T size lo hi (w.setCell ⟨b, k, none⟩ u) A n := fun hn => by
  obtain ⟨g, N, f, h1, h2, h3, h4, h5⟩ := h hn
  by_cases e : g = b
  · subst e
    exact ⟨g, N, _, h1, h2, h3, h4.set k u, h5⟩
  · exact ⟨g, N, f, h1, h2, h3, h4.of_block (Below.heap_setCell _ _ _ _ e), h5⟩
/-- rows of tiles, with the rows of their sides -/
def MkTiles (TT TI lo hi : Nat) (w : World) (A : Option Addr) (m : Nat) : Prop :=
  0 < m → ∃ g N f, A = some ⟨g, 0, none⟩ ∧ lo ≤ g ∧ g < hi ∧ w.rowIs g TT N f ∧ m * 2 ≤ N ∧ ∀ k, k < m → ∃ A' n', f (k * 2 + 1) = .slice A' n' n' ∧ n' ≤ 1073741824 ∧ MkRow TI 1 lo hi w A' n'
theorem OwSl.mkTiles {TT TI lo : Nat} {w : World} {A : Option Addr} {m : Nat} {ts : List Ti} (h : OwSl TT 2 (ROTi TI lo) w lo A m ts) (hs : ∀ e ∈ ts, e.sides.length ≤ 1073741824) : MkTiles TT TI lo w.heap.size w A m := fun _ => by
  obtain ⟨g, f, hA, hlo, hr, he⟩ := h.row
  refine ⟨g, _, f, hA, hlo, hr.lt, hr, Nat.le_refl _, fun k hk => ?_⟩
  have hk' : k < ts.length := by rw [h.len]; exact hk
  obtain ⟨h1, A', n', h2, h3⟩ := he k _ (List.getElem?_eq_getElem hk')
  have h4 := hr.cell (i := k * 2 + 1) (by omega)
  rw [h2] at h4
  exact ⟨A', n', (Option.some.inj h4).symm, by rw [← h3.len]; exact hs _ (List.getElem_mem hk'), h3.mk_⟩
theorem MkTiles.keep {TT TI lo hi : Nat} {w w' : World} {A : Option Addr} {m : Nat} (h : MkTiles TT TI lo hi w A m) (hk : ∀ k, lo ≤ k → k < hi → w'.heap[k]? = w.heap[k]?) : MkTiles TT TI lo hi w' A m := fun hm => by
  obtain ⟨g, N, f, h1, h2, h3, h4, h5, h6⟩ := h hm
  refine ⟨g, N, f, h1, h2, h3, h4.of_block (hk g h2 h3), h5, fun k hk' => ?_⟩
  obtain ⟨A', n', g1, g2, g3⟩ := h6 k hk'
  exact ⟨A', n', g1, g2, g3.keep hk⟩
theorem MkTiles.below {TT TI lo hi : Nat} {w w' : World} {A : Option Addr} {m : Nat} (h : MkTiles TT TI lo hi w A m) (hb : Below w.heap.size w w') (hh : hi ≤ w.heap.size) : MkTiles TT TI lo hi w' A m := h.keep fun k _ h2 => hb.block k (by omega)
theorem MkTiles.mk {TT TI lo hi lo' hi' : Nat} {w w' : World} {A : Option Addr} {n : Nat} (h : MkTiles TT TI lo hi w A n) (hb : Mk lo' hi' w w') (h1 : hi' ≤ lo) (hh : hi ≤ w.heap.size) : MkTiles TT TI lo hi w' A n := h.keep fun k h2 h3 => hb.keep k (by omega) (by omega)
theorem MkTiles.set {TT TI lo hi : Nat} {w : World} {A : Option Addr} {m : Nat} (hne : TT ≠ TI) (h : MkTiles TT TI lo hi w A m) {b k : Nat} {u : Value} (hb : ∃ N f, w.rowIs b TI N f) : MkTiles TT TI lo hi (w.setCell ⟨b, k, none⟩ u) A m := fun hm => by
  obtain ⟨g, N, f, h1, h2, h3, h4, h5, h6⟩ := h hm
  have hgb : g ≠ b := by
    rintro rfl
    obtain ⟨N', f', c', hc', _⟩ := hb
    obtain ⟨c, hc, _⟩ := h4
    rw [hc] at hc'
    injection hc' with hc'
    injection hc' with _ ht
    exact hne ht
  refine ⟨g, N, f, h1, h2, h3, h4.of_block (Below.heap_setCell _ _ _ _ hgb), h5, fun k' hk' => ?_⟩
  obtain ⟨A', n', g1, g2, g3⟩ := h6 k' hk'
  exact ⟨A', n', g1, g2, g3.set b k u⟩
theorem MkTiles.setName {TT TI lo hi : Nat} {w : World} {A : Option Addr} {m : Nat} (hne : TT ≠ TI) (h : MkTiles TT TI lo hi w A m) {b : Nat} (hA : A = some ⟨b, 0, none⟩) (k : Nat) (u : Value) : MkTiles TT TI lo hi (w.setCell ⟨b, k * 2, none⟩ u) A m := fun hm => by
  obtain ⟨g, N, f, h1, h2, h3, h4, h5, h6⟩ := h hm
  obtain rfl : g = b := by
    rw [hA] at h1
    injection h1 with h1
    injection h1 with h1
    exact h1.symm
  refine ⟨g, N, _, h1, h2, h3, h4.set (k * 2) u, h5, fun k' hk' => ?_⟩
  obtain ⟨A', n', g1, g2, g3⟩ := h6 k' hk'
  exact ⟨A', n', by rw [if_neg (by omega)]; exact g1, g2, g3.set g (k * 2) u⟩

end Go.Proofs.Ytkppijcjmhkkkaa
/- Maps from points that a call makes: the tiles of a crystal, and the lists of its options (by their lengths). -/







namespace Go.Proofs.Ytkppijcjmhkkkaa
open Go.RowKit Go.Shelf
open Go.Maps (Keyed)
theorem prog_laid : laidOutB Try.prog = true := by kernel_rfl
set_option maxRecDepth 100000
theorem pt_row : (49 : TypeId) < Try.prog.types.size := of_decide_eq_true (by kernel_rfl)
theorem pt_wide : (match Try.prog.underlying 49 with | some (.array _ _) | some (.struct _) => true | _ => false) = true := by rw [Try.underlying49]
theorem pt_keyed : Keyed Try.prog 49 := Maps.Keyed.of_law (deep_law_laid prog_laid (m := 2) (by omega) pt_row (by kernel_rfl) pt_wide)
/-- a number of 64 bits -/
def W64 (x : Int) : Prop := (Lit.int .i64 x).wf = true
theorem W64.of {x : Int} (h : -1000000 ≤ x ∧ x ≤ 1000000) : W64 x := by
  unfold W64; simp [Lit.wf, IntKind.min, IntKind.max, IntKind.bits, IntKind.signed]; omega
theorem pt_type : Try.prog.keyType 49 = true := by kernel_rfl
theorem pt_cells : Try.prog.cellsOf 49 = 2 := by kernel_rfl
theorem i64_cells : Try.prog.cellsOf 2 = 1 := by kernel_rfl
theorem pt_size : ∃ m, Try.prog.types.size = m + 1 := ⟨_, (Nat.succ_pred_eq_of_pos (Nat.lt_of_le_of_lt (Nat.zero_le _) pt_row)).symm⟩
theorem keyOf_pt_some {x y : Int} (hx : W64 x) (hy : W64 y) : ∃ l, keyOf Try.prog 49 (.agg #[.int .i64 x, .int .i64 y]) = some l := by
  unfold keyOf
  obtain ⟨m, hm⟩ := pt_size
  unfold W64 at hx hy
  rw [Try.underlying49]
  simp only []
  rw [if_pos (by rw [pt_type]; simp [Value.formed, Try.underlying49, pt_cells])]
  simp only [Option.map_eq_some_iff]
  refine ⟨_, [.int .i64 x, .int .i64 y], ?_, rfl⟩
  rw [hm]
  simp [Program.keyLits, Try.underlying49, Try.underlying2, pt_cells, i64_cells, Value.cells, hx, hy]
noncomputable def pkey (x y : Int) : Lit := (keyOf Try.prog 49 (.agg #[.int .i64 x, .int .i64 y])).getD (.bool false)
theorem keyOf_pt {x y : Int} (hx : W64 x) (hy : W64 y) : keyOf Try.prog 49 (.agg #[.int .i64 x, .int .i64 y]) = some (pkey x y) := by
  obtain ⟨l, hl⟩ := keyOf_pt_some hx hy
  unfold pkey
  rw [hl]; rfl
theorem pkey_inj {x y x' y' : Int} (hx : W64 x) (hy : W64 y) (hx' : W64 x') (hy' : W64 y') (h : pkey x y = pkey x' y') : x = x' ∧ y = y' := by
  have h1 := keyOf_pt hx hy
  have h2 := keyOf_pt hx' hy'
  rw [← h] at h2
  have := pt_keyed.inj h1 h2
  simp at this
  exact this
/-- block b maps points to numbers: M; at most n were laid in -/
def PMap (w : World) (b n : Nat) (M : Int → Int → Option Int) : Prop :=
  ∃ D : DataW Unit, w.ownsMap Try.prog 49 (plainElem Try.prog 2) b n D ∧ ∀ x y, W64 x → W64 y → Maps.has D (pkey x y) = (M x y).isSome ∧ ∀ v, M x y = some v → D.atKey (pkey x y) (.lit (.int .i64 0)) = .lit (.int .i64 v)
theorem PMap.made (w : World) : PMap (w.alloc (.map #[] 0)) w.heap.size 0 (fun _ _ => none) :=
  ⟨_, World.ownsMap_made _ _ _ _, fun x y _ _ => ⟨by simp [Maps.has], fun v h => by cases h⟩⟩
theorem PMap.lt {w : World} {b n : Nat} {M : Int → Int → Option Int} (h : PMap w b n M) : b < w.heap.size := by
  obtain ⟨D, h, _⟩ := h
  exact h.lt
theorem PMap.block {w w' : World} {b n : Nat} {M : Int → Int → Option Int} (h : PMap w b n M) (hb : w'.heap[b]? = w.heap[b]?) : PMap w' b n M := by
  obtain ⟨D, ⟨es, clock, hh, r⟩, h2⟩ := h
  exact ⟨D, ⟨es, clock, hb.trans hh, r⟩, h2⟩
theorem PMap.below {w w' : World} {b n : Nat} {M : Int → Int → Option Int} (h : PMap w b n M) (hb : Below w.heap.size w w') : PMap w' b n M := h.block (hb.block b h.lt)
theorem PMap.mk {w w' : World} {b n lo hi : Nat} {M : Int → Int → Option Int} (h : PMap w b n M) (hm : Mk lo hi w w') (hn : b < lo ∨ hi ≤ b) : PMap w' b n M :=
  h.block (by rcases hn with h1 | h1; exact hm.below.block b h1; exact hm.keep b h1 h.lt)
theorem zero_i64 (w : World) : (zeroValue 2).run Try.prog w = .ok (.int .i64 0) w := by kernel_rfl
section
variable {ops : Array Oper}
theorem PMap.put {w' : World} {b n : Nat} {M : Int → Int → Option Int} {D : DataW Unit} {x y v : Int} (hx : W64 x) (hy : W64 y) (hD : Maps.IsMap D) (hat : ∀ x y, W64 x → W64 y → Maps.has D (pkey x y) = (M x y).isSome ∧ ∀ v, M x y = some v → D.atKey (pkey x y) (.lit (.int .i64 0)) = .lit (.int .i64 v))
    (h1 : w'.ownsMap Try.prog 49 (plainElem Try.prog 2) b n (D.put (pkey x y) (.lit (.int .i64 v)))) : PMap w' b n (fun i j => if i = x ∧ j = y then some v else M i j) := by
  refine ⟨_, h1, fun i j hi hj => ?_⟩
  by_cases hij : i = x ∧ j = y
  · obtain ⟨rfl, rfl⟩ := hij
    have hkl := pt_keyed.key (keyOf_pt hi hj)
    simp only [and_self, if_true]
    refine ⟨Maps.has_put_same hD hkl _, fun u hu => ?_⟩
    injection hu with hu
    subst hu
    exact Maps.atKey_put_same hD hkl _ _
  · have hne : pkey i j ≠ pkey x y := fun e => hij (pkey_inj hi hj hx hy e)
    simp only [if_neg hij]
    rw [Maps.has_put_other hne]
    refine ⟨(hat i j hi hj).1, fun u hu => ?_⟩
    rw [Maps.atKey_put_other hne]
    exact (hat i j hi hj).2 u hu
end
/-- how a list of options reads: by its length -/
def lenElem (v : Value) : Option (DataW Unit × List MemPlace) := match v with
  | .slice _ n _ => some (.lit (.int .i64 (n : Int)), [])
  | _ => none
theorem lenElem_inv (v : Value) (y : DataW Unit × List MemPlace) (h : lenElem v = some y) : ∃ c : Option Addr × Nat × Nat, v = .slice c.1 c.2.1 c.2.2 := by
  unfold lenElem at h
  split at h
  · exact ⟨⟨_, _, _⟩, rfl⟩
  · cases h
/-- block b maps the points of S, no others, to lists that are not empty -/
def OMap (w : World) (b n : Nat) (S : Int → Int → Bool) : Prop :=
  ∃ D : DataW Unit, w.ownsMap Try.prog 49 lenElem b n D ∧ (∀ x y, W64 x → W64 y → Maps.has D (pkey x y) = S x y) ∧ ∀ kl, Maps.has D kl = true → ∃ x y : Int, W64 x ∧ W64 y ∧ kl = pkey x y ∧ ∃ m : Nat, 1 ≤ m ∧ m ≤ 1000000 ∧ ∀ z, D.atKey kl z = .lit (.int .i64 (m : Int))
theorem OMap.made (w : World) : OMap (w.alloc (.map #[] 0)) w.heap.size 0 (fun _ _ => false) :=
  ⟨_, World.ownsMap_made _ _ _ _, fun x y _ _ => by simp [Maps.has], fun kl h => by simp [Maps.has] at h⟩
theorem OMap.lt {w : World} {b n : Nat} {S : Int → Int → Bool} (h : OMap w b n S) : b < w.heap.size := by
  obtain ⟨D, h, _⟩ := h
  exact h.lt
theorem OMap.block {w w' : World} {b n : Nat} {S : Int → Int → Bool} (h : OMap w b n S) (hb : w'.heap[b]? = w.heap[b]?) : OMap w' b n S := by
  obtain ⟨D, ⟨es, clock, hh, r⟩, h2⟩ := h
  exact ⟨D, ⟨es, clock, hb.trans hh, r⟩, h2⟩
theorem OMap.below {w w' : World} {b n : Nat} {S : Int → Int → Bool} (h : OMap w b n S) (hb : Below w.heap.size w w') : OMap w' b n S := h.block (hb.block b h.lt)
theorem OMap.mk {w w' : World} {b n lo hi : Nat} {S : Int → Int → Bool} (h : OMap w b n S) (hm : Mk lo hi w w') (hn : b < lo ∨ hi ≤ b) : OMap w' b n S :=
  h.block (by rcases hn with h1 | h1; exact hm.below.block b h1; exact hm.keep b h1 h.lt)
section
variable {ops : Array Oper}
end
end Go.Proofs.Ytkppijcjmhkkkaa
