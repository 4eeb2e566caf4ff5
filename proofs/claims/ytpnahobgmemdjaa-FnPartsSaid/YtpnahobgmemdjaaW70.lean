/- Maps from points that a call makes: the tiles of a crystal, and the lists of its options (by their lengths). -/
import Derived.Test.YtpnahobgmemdjaaW8
import Derived.Test.YtpnahobgmemdjaaOrd
import Derived.Test.YtpnahobgmemdjaaKH
import Derived.Maps.OwnSet
import Derived.Maps.RangeWalk
import Derived.MapViews
import Derived.DeepKeys4
namespace Go.Proofs.Ytpnahobgmemdjaa
open Go.RowKit Go.Shelf
set_option linter.unusedSimpArgs false
set_option linter.unusedVariables false
open Go.Maps (Keyed)
theorem prog_laid : laidOutB Try.prog = true := by kernel_rfl
set_option maxRecDepth 100000
theorem pt_row : (34 : TypeId) < Try.prog.types.size := of_decide_eq_true (by kernel_rfl)
theorem pt_wide : (match Try.prog.underlying 34 with | some (.array _ _) | some (.struct _) => true | _ => false) = true := by rw [Try.underlying34]
theorem pt_keyed : Keyed Try.prog 34 := Maps.Keyed.of_law (deep_law_laid prog_laid (m := 2) (by omega) pt_row (by kernel_rfl) pt_wide)
/-- a number of 64 bits -/
def W64 (x : Int) : Prop := (Lit.int .i64 x).wf = true
theorem W64.of {x : Int} (h : -1000000 ≤ x ∧ x ≤ 1000000) : W64 x := by
  unfold W64; simp [Lit.wf, IntKind.min, IntKind.max, IntKind.bits, IntKind.signed]; omega
theorem pt_type : Try.prog.keyType 34 = true := by kernel_rfl
theorem pt_cells : Try.prog.cellsOf 34 = 2 := by kernel_rfl
theorem i64_cells : Try.prog.cellsOf 2 = 1 := by kernel_rfl
theorem pt_size : ∃ m, Try.prog.types.size = m + 1 := ⟨_, (Nat.succ_pred_eq_of_pos (Nat.lt_of_le_of_lt (Nat.zero_le _) pt_row)).symm⟩
theorem keyOf_pt_some {x y : Int} (hx : W64 x) (hy : W64 y) : ∃ l, keyOf Try.prog 34 (.agg #[.int .i64 x, .int .i64 y]) = some l := by
  unfold keyOf
  obtain ⟨m, hm⟩ := pt_size
  unfold W64 at hx hy
  rw [Try.underlying34]
  simp only []
  rw [if_pos (by rw [pt_type]; simp [Value.formed, Try.underlying34, pt_cells])]
  simp only [Option.map_eq_some_iff]
  refine ⟨_, [.int .i64 x, .int .i64 y], ?_, rfl⟩
  rw [hm]
  simp [Program.keyLits, Try.underlying34, Try.underlying2, pt_cells, i64_cells, Value.cells, hx, hy]
noncomputable def pkey (x y : Int) : Lit := (keyOf Try.prog 34 (.agg #[.int .i64 x, .int .i64 y])).getD (.bool false)
theorem keyOf_pt {x y : Int} (hx : W64 x) (hy : W64 y) : keyOf Try.prog 34 (.agg #[.int .i64 x, .int .i64 y]) = some (pkey x y) := by
  obtain ⟨l, hl⟩ := keyOf_pt_some hx hy
  unfold pkey
  rw [hl]; rfl
theorem pkey_inj {x y x' y' : Int} (hx : W64 x) (hy : W64 y) (hx' : W64 x') (hy' : W64 y') (h : pkey x y = pkey x' y') : x = x' ∧ y = y' := by
  have h1 := keyOf_pt hx hy
  have h2 := keyOf_pt hx' hy'
  rw [← h] at h2
  have := pt_keyed.inj h1 h2
  simp at this
  exact this
/-- block b maps points to numbers: M; at most n were laid in -/
def PMap (w : World) (b n : Nat) (M : Int → Int → Option Int) : Prop :=
  ∃ D : DataW Unit, w.ownsMap Try.prog 34 (plainElem Try.prog 2) b n D ∧ ∀ x y, W64 x → W64 y → Maps.has D (pkey x y) = (M x y).isSome ∧ ∀ v, M x y = some v → D.atKey (pkey x y) (.lit (.int .i64 0)) = .lit (.int .i64 v)
theorem PMap.made (w : World) : PMap (w.alloc (.map #[] 0)) w.heap.size 0 (fun _ _ => none) :=
  ⟨_, World.ownsMap_made _ _ _ _, fun x y _ _ => ⟨by simp [Maps.has], fun v h => by cases h⟩⟩
theorem PMap.lt {w : World} {b n : Nat} {M : Int → Int → Option Int} (h : PMap w b n M) : b < w.heap.size := by
  obtain ⟨D, h, _⟩ := h
  exact h.lt
theorem PMap.block {w w' : World} {b n : Nat} {M : Int → Int → Option Int} (h : PMap w b n M) (hb : w'.heap[b]? = w.heap[b]?) : PMap w' b n M := by
  obtain ⟨D, ⟨es, clock, hh, r⟩, h2⟩ := h
  exact ⟨D, ⟨es, clock, hb.trans hh, r⟩, h2⟩
theorem PMap.below {w w' : World} {b n : Nat} {M : Int → Int → Option Int} (h : PMap w b n M) (hb : Below w.heap.size w w') : PMap w' b n M := h.block (hb.block b h.lt)
theorem PMap.mk {w w' : World} {b n lo hi : Nat} {M : Int → Int → Option Int} (h : PMap w b n M) (hm : Mk lo hi w w') (hn : b < lo ∨ hi ≤ b) : PMap w' b n M :=
  h.block (by rcases hn with h1 | h1; exact hm.below.block b h1; exact hm.keep b h1 h.lt)
theorem zero_i64 (w : World) : (zeroValue 2).run Try.prog w = .ok (.int .i64 0) w := by kernel_rfl
section
variable {ops : Array Oper}
theorem PMap.put {w' : World} {b n : Nat} {M : Int → Int → Option Int} {D : DataW Unit} {x y v : Int} (hx : W64 x) (hy : W64 y) (hD : Maps.IsMap D) (hat : ∀ x y, W64 x → W64 y → Maps.has D (pkey x y) = (M x y).isSome ∧ ∀ v, M x y = some v → D.atKey (pkey x y) (.lit (.int .i64 0)) = .lit (.int .i64 v))
    (h1 : w'.ownsMap Try.prog 34 (plainElem Try.prog 2) b n (D.put (pkey x y) (.lit (.int .i64 v)))) : PMap w' b n (fun i j => if i = x ∧ j = y then some v else M i j) := by
  refine ⟨_, h1, fun i j hi hj => ?_⟩
  by_cases hij : i = x ∧ j = y
  · obtain ⟨rfl, rfl⟩ := hij
    have hkl := pt_keyed.key (keyOf_pt hi hj)
    simp only [and_self, if_true]
    refine ⟨Maps.has_put_same hD hkl _, fun u hu => ?_⟩
    injection hu with hu
    subst hu
    exact Maps.atKey_put_same hD hkl _ _
  · have hne : pkey i j ≠ pkey x y := fun e => hij (pkey_inj hi hj hx hy e)
    simp only [if_neg hij]
    rw [Maps.has_put_other hne]
    refine ⟨(hat i j hi hj).1, fun u hu => ?_⟩
    rw [Maps.atKey_put_other hne]
    exact (hat i j hi hj).2 u hu
end
/-- how a list of options reads: by its length -/
def lenElem (v : Value) : Option (DataW Unit × List MemPlace) := match v with
  | .slice _ n _ => some (.lit (.int .i64 (n : Int)), [])
  | _ => none
theorem lenElem_inv (v : Value) (y : DataW Unit × List MemPlace) (h : lenElem v = some y) : ∃ c : Option Addr × Nat × Nat, v = .slice c.1 c.2.1 c.2.2 := by
  unfold lenElem at h
  split at h
  · exact ⟨⟨_, _, _⟩, rfl⟩
  · cases h
/-- block b maps the points of S, no others, to lists that are not empty -/
def OMap (w : World) (b n : Nat) (S : Int → Int → Bool) : Prop :=
  ∃ D : DataW Unit, w.ownsMap Try.prog 34 lenElem b n D ∧ (∀ x y, W64 x → W64 y → Maps.has D (pkey x y) = S x y) ∧ ∀ kl, Maps.has D kl = true → ∃ x y : Int, W64 x ∧ W64 y ∧ kl = pkey x y ∧ ∃ m : Nat, 1 ≤ m ∧ m ≤ 1000000 ∧ ∀ z, D.atKey kl z = .lit (.int .i64 (m : Int))
theorem OMap.made (w : World) : OMap (w.alloc (.map #[] 0)) w.heap.size 0 (fun _ _ => false) :=
  ⟨_, World.ownsMap_made _ _ _ _, fun x y _ _ => by simp [Maps.has], fun kl h => by simp [Maps.has] at h⟩
theorem OMap.lt {w : World} {b n : Nat} {S : Int → Int → Bool} (h : OMap w b n S) : b < w.heap.size := by
  obtain ⟨D, h, _⟩ := h
  exact h.lt
theorem OMap.block {w w' : World} {b n : Nat} {S : Int → Int → Bool} (h : OMap w b n S) (hb : w'.heap[b]? = w.heap[b]?) : OMap w' b n S := by
  obtain ⟨D, ⟨es, clock, hh, r⟩, h2⟩ := h
  exact ⟨D, ⟨es, clock, hb.trans hh, r⟩, h2⟩
theorem OMap.below {w w' : World} {b n : Nat} {S : Int → Int → Bool} (h : OMap w b n S) (hb : Below w.heap.size w w') : OMap w' b n S := h.block (hb.block b h.lt)
theorem OMap.mk {w w' : World} {b n lo hi : Nat} {S : Int → Int → Bool} (h : OMap w b n S) (hm : Mk lo hi w w') (hn : b < lo ∨ hi ≤ b) : OMap w' b n S :=
  h.block (by rcases hn with h1 | h1; exact hm.below.block b h1; exact hm.keep b h1 h.lt)
section
variable {ops : Array Oper}
end
end Go.Proofs.Ytpnahobgmemdjaa
