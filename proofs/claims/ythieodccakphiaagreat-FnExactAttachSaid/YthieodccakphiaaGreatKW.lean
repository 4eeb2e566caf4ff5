import Derived.Test.YthieodccakphiaaGreatW8
import Derived.Test.YthieodccakphiaaGreatOrd
import Derived.Test.YthieodccakphiaaGreatKH
import Derived.Maps.OwnSet
import Derived.Maps.RangeWalk
import Derived.MapViews
import Derived.DeepKeys4
import Derived.Test.YthieodccakphiaaGreatW20a
import Derived.Maps.Ext
set_option linter.unusedSimpArgs false
set_option linter.unusedVariables false
/- Maps from points that a call makes: the tiles of a crystal, and the lists of its options (by their lengths). -/







namespace Go.Proofs.YthieodccakphiaaGreat
open Go.RowKit Go.Shelf
open Go.Maps (Keyed)
theorem prog_laid : laidOutB Tryz.prog = true := by kernel_rfl
set_option maxRecDepth 100000
theorem pt_row : (57 : TypeId) < Tryz.prog.types.size := of_decide_eq_true (by kernel_rfl)
theorem pt_wide : (match Tryz.prog.underlying 57 with | some (.array _ _) | some (.struct _) => true | _ => false) = true := by rw [Tryz.underlying57]
theorem pt_keyed : Keyed Tryz.prog 57 := Maps.Keyed.of_law (deep_law_laid prog_laid (m := 2) (by omega) pt_row (by kernel_rfl) pt_wide)
/-- a number of 64 bits -/
def W64 (x : Int) : Prop := (Lit.int .i64 x).wf = true
theorem W64.of {x : Int} (h : -1000000 ≤ x ∧ x ≤ 1000000) : W64 x := by
  unfold W64; simp [Lit.wf, IntKind.min, IntKind.max, IntKind.bits, IntKind.signed]; omega
theorem pt_type : Tryz.prog.keyType 57 = true := by kernel_rfl
theorem pt_cells : Tryz.prog.cellsOf 57 = 2 := by kernel_rfl
theorem i64_cells : Tryz.prog.cellsOf 2 = 1 := by kernel_rfl
theorem pt_size : ∃ m, Tryz.prog.types.size = m + 1 := ⟨_, (Nat.succ_pred_eq_of_pos (Nat.lt_of_le_of_lt (Nat.zero_le _) pt_row)).symm⟩
theorem keyOf_pt_some {x y : Int} (hx : W64 x) (hy : W64 y) : ∃ l, keyOf Tryz.prog 57 (.agg #[.int .i64 x, .int .i64 y]) = some l := by
  unfold keyOf
  obtain ⟨m, hm⟩ := pt_size
  unfold W64 at hx hy
  rw [Tryz.underlying57]
  simp only []
  rw [if_pos (by rw [pt_type]; simp [Value.formed, Tryz.underlying57, pt_cells])]
  simp only [Option.map_eq_some_iff]
  refine ⟨_, [.int .i64 x, .int .i64 y], ?_, rfl⟩
  rw [hm]
  simp [Program.keyLits, Tryz.underlying57, Tryz.underlying2, pt_cells, i64_cells, Value.cells, hx, hy]
noncomputable def pkey (x y : Int) : Lit := (keyOf Tryz.prog 57 (.agg #[.int .i64 x, .int .i64 y])).getD (.bool false)
theorem keyOf_pt {x y : Int} (hx : W64 x) (hy : W64 y) : keyOf Tryz.prog 57 (.agg #[.int .i64 x, .int .i64 y]) = some (pkey x y) := by
  obtain ⟨l, hl⟩ := keyOf_pt_some hx hy
  unfold pkey
  rw [hl]; rfl
theorem pkey_inj {x y x' y' : Int} (hx : W64 x) (hy : W64 y) (hx' : W64 x') (hy' : W64 y') (h : pkey x y = pkey x' y') : x = x' ∧ y = y' := by
  have h1 := keyOf_pt hx hy
  have h2 := keyOf_pt hx' hy'
  rw [← h] at h2
  have := pt_keyed.inj h1 h2
  simp at this
  exact this
/-- block b maps points to numbers: M; at most n were laid in -/
def PMap (w : World) (b n : Nat) (M : Int → Int → Option Int) : Prop :=
  ∃ D : DataW Unit, w.ownsMap Tryz.prog 57 (plainElem Tryz.prog 2) b n D ∧ ∀ x y, W64 x → W64 y → Maps.has D (pkey x y) = (M x y).isSome ∧ ∀ v, M x y = some v → D.atKey (pkey x y) (.lit (.int .i64 0)) = .lit (.int .i64 v)
theorem PMap.made (w : World) : PMap (w.alloc (.map #[] 0)) w.heap.size 0 (fun _ _ => none) :=
  ⟨_, World.ownsMap_made _ _ _ _, fun x y _ _ => ⟨by simp [Maps.has], fun v h => by cases h⟩⟩
theorem PMap.lt {w : World} {b n : Nat} {M : Int → Int → Option Int} (h : PMap w b n M) : b < w.heap.size := by
  obtain ⟨D, h, _⟩ := h
  exact h.lt
theorem PMap.block {w w' : World} {b n : Nat} {M : Int → Int → Option Int} (h : PMap w b n M) (hb : w'.heap[b]? = w.heap[b]?) : PMap w' b n M := by
  obtain ⟨D, ⟨es, clock, hh, r⟩, h2⟩ := h
  exact ⟨D, ⟨es, clock, hb.trans hh, r⟩, h2⟩
theorem PMap.below {w w' : World} {b n : Nat} {M : Int → Int → Option Int} (h : PMap w b n M) (hb : Below w.heap.size w w') : PMap w' b n M := h.block (hb.block b h.lt)
theorem PMap.mk {w w' : World} {b n lo hi : Nat} {M : Int → Int → Option Int} (h : PMap w b n M) (hm : Mk lo hi w w') (hn : b < lo ∨ hi ≤ b) : PMap w' b n M :=
  h.block (by rcases hn with h1 | h1; exact hm.below.block b h1; exact hm.keep b h1 h.lt)
theorem zero_i64 (w : World) : (zeroValue 2).run Tryz.prog w = .ok (.int .i64 0) w := by kernel_rfl
section
variable {ops : Array Oper}
theorem look_run {w : World} {b n : Nat} {M : Int → Int → Option Int} (h : PMap w b n M) {x y : Int} (hx : W64 x) (hy : W64 y) : ∃ c : Int, (∀ v, M x y = some v → c = v) ∧ ∀ W, Below w.heap.size w W → (Instr.lookup 151 (.map (some b)) (.agg #[.int .i64 x, .int .i64 y]) true).run Tryz.prog W = .ok (.tuple #[.int .i64 c, .bool (M x y).isSome]) W := by
  obtain ⟨D, hown, hat⟩ := h
  have hl := hown.lt
  have key : ∀ W, Below w.heap.size w W → ∃ c : Int, D.atKey (pkey x y) (.lit (.int .i64 0)) = .lit (.int .i64 c) ∧ (Instr.lookup 151 (.map (some b)) (.agg #[.int .i64 x, .int .i64 y]) true).run Tryz.prog W = .ok (.tuple #[.int .i64 c, .bool (M x y).isSome]) W := fun W hb => by
    have hownW : W.ownsMap Tryz.prog 57 (plainElem Tryz.prog 2) b n D := by
      obtain ⟨es, clock, hh, r⟩ := hown
      exact ⟨es, clock, (hb.block b hl).trans hh, r⟩
    obtain ⟨v, ps, hrun, hv⟩ := hownW.look_ok pt_keyed Tryz.underlying151 (zero_i64 W) (plainElem_int Tryz.underlying2 (by decide)) (keyOf_pt hx hy)
    obtain ⟨c, rfl, hc, _⟩ := plainElem_int_inv Tryz.underlying2 hv
    rw [(hat x y hx hy).1] at hrun
    exact ⟨c, congrArg Prod.fst hc, hrun⟩
  obtain ⟨c, hc, _⟩ := key w (Below.refl _ _)
  refine ⟨c, fun v hv => ?_, fun W hW => ?_⟩
  · have := (hat x y hx hy).2 v hv
    rw [hc] at this
    injection this with this
    injection this
  · obtain ⟨c', hc', hrun⟩ := key W hW
    rw [hc] at hc'
    injection hc' with hc'
    injection hc' with _ hc'
    rw [hc']; exact hrun
theorem wpD_look_pmap {o : Oper} {rest : List (Oper × Tag)} {a : Act} {w : World} {Q : Act → World → Prop} (hgd : o.guard = none) (m k : Operand) (hop : o.op = Op.lookup 151 m k true) (b n : Nat) (M : Int → Int → Option Int) (hm : a.eval m = .map (some b)) (h : PMap w b n M) (x y : Int) (hx : W64 x) (hy : W64 y) (hk : a.eval k = .agg #[.int .i64 x, .int .i64 y])
    (hK : ∀ c : Int, (∀ v, M x y = some v → c = v) → wpD Tryz.prog ops Q rest (a.put o.dst (.tuple #[.int .i64 c, .bool (M x y).isSome])) w) : wpD Tryz.prog ops Q ((o, .q) :: rest) a w := by
  refine wpD_q fun K hK' => ?_
  have hw : Region.wanted o (yielded ops a.tmps) = true := by simp [Region.wanted, hgd]
  rw [if_pos hw]
  obtain ⟨c, hc, hrun⟩ := look_run h hx hy
  refine ⟨_, fun p => ?_, hK' _ (hK c hc)⟩
  unfold execOp
  simp [hop, hm, hk, hrun p.world p.h, Result.andThen, stillUpon]
theorem PMap.put {w' : World} {b n : Nat} {M : Int → Int → Option Int} {D : DataW Unit} {x y v : Int} (hx : W64 x) (hy : W64 y) (hD : Maps.IsMap D) (hat : ∀ x y, W64 x → W64 y → Maps.has D (pkey x y) = (M x y).isSome ∧ ∀ v, M x y = some v → D.atKey (pkey x y) (.lit (.int .i64 0)) = .lit (.int .i64 v))
    (h1 : w'.ownsMap Tryz.prog 57 (plainElem Tryz.prog 2) b n (D.put (pkey x y) (.lit (.int .i64 v)))) : PMap w' b n (fun i j => if i = x ∧ j = y then some v else M i j) := by
  refine ⟨_, h1, fun i j hi hj => ?_⟩
  by_cases hij : i = x ∧ j = y
  · obtain ⟨rfl, rfl⟩ := hij
    have hkl := pt_keyed.key (keyOf_pt hi hj)
    simp only [and_self, if_true]
    refine ⟨Maps.has_put_same hD hkl _, fun u hu => ?_⟩
    injection hu with hu
    subst hu
    exact Maps.atKey_put_same hD hkl _ _
  · have hne : pkey i j ≠ pkey x y := fun e => hij (pkey_inj hi hj hx hy e)
    simp only [if_neg hij]
    rw [Maps.has_put_other hne]
    refine ⟨(hat i j hi hj).1, fun u hu => ?_⟩
    rw [Maps.atKey_put_other hne]
    exact (hat i j hi hj).2 u hu
theorem wpD_put_pmap {o : Oper} {rest : List (Oper × Tag)} {a : Act} {w : World} {Q : Act → World → Prop} (hgd : o.guard = none) (m k u : Operand) (hop : o.op = Op.mapUpdate 151 m k u) (b n : Nat) (M : Int → Int → Option Int) (hm : a.eval m = .map (some b)) (h : PMap w b n M) (x y v : Int) (hx : W64 x) (hy : W64 y) (hv : W64 v) (hn : n < maxLen) (hk : a.eval k = .agg #[.int .i64 x, .int .i64 y]) (hu : a.eval u = .int .i64 v)
    (hK : ∀ w', PMap w' b (n + 1) (fun i j => if i = x ∧ j = y then some v else M i j) → Mk b (b + 1) w w' → wpD Tryz.prog ops Q rest (a.put o.dst undef) w') : wpD Tryz.prog ops Q ((o, .b) :: rest) a w := by
  refine wpD_b fun K hK' => ?_
  have hw : Region.wanted o (yielded ops a.tmps) = true := by simp [Region.wanted, hgd]
  rw [if_pos hw]
  obtain ⟨D, hown, hat⟩ := h
  have hl := hown.lt
  obtain ⟨w', hrun, h1, h2⟩ := hown.update pt_keyed Tryz.underlying151 hn (keyOf_pt hx hy) (plainElem_int Tryz.underlying2 hv)
  unfold execOp
  simp only [hop, hm, hk, hu, Sem.run_bind, Sem.run_pure, hrun, Result.andThen_ok]
  exact hK' _ _ (hK w' (PMap.put hx hy hown.isMap hat h1) ⟨(Below.refl b w).grown h2 (Nat.le_of_lt hl) (fun j hj => by cases hj; exact Nat.le_refl _), h2.size, fun i hi hlt => h2.block i hlt (fun hh => by injection hh with hh; omega)⟩)
end
/-- how a list of options reads: by its length -/
def lenElem (v : Value) : Option (DataW Unit × List MemPlace) := match v with
  | .slice _ n _ => some (.lit (.int .i64 (n : Int)), [])
  | _ => none
theorem lenElem_inv (v : Value) (y : DataW Unit × List MemPlace) (h : lenElem v = some y) : ∃ c : Option Addr × Nat × Nat, v = .slice c.1 c.2.1 c.2.2 := by
  unfold lenElem at h
  split at h
  · exact ⟨⟨_, _, _⟩, rfl⟩
  · cases h
/-- block b maps the points of S, no others, to lists that are not empty -/
def OMap (w : World) (b n : Nat) (S : Int → Int → Bool) : Prop :=
  ∃ D : DataW Unit, w.ownsMap Tryz.prog 57 lenElem b n D ∧ (∀ x y, W64 x → W64 y → Maps.has D (pkey x y) = S x y) ∧ ∀ kl, Maps.has D kl = true → ∃ x y : Int, W64 x ∧ W64 y ∧ kl = pkey x y ∧ ∃ m : Nat, 1 ≤ m ∧ m ≤ 1000000 ∧ ∀ z, D.atKey kl z = .lit (.int .i64 (m : Int))
theorem OMap.made (w : World) : OMap (w.alloc (.map #[] 0)) w.heap.size 0 (fun _ _ => false) :=
  ⟨_, World.ownsMap_made _ _ _ _, fun x y _ _ => by simp [Maps.has], fun kl h => by simp [Maps.has] at h⟩
theorem OMap.lt {w : World} {b n : Nat} {S : Int → Int → Bool} (h : OMap w b n S) : b < w.heap.size := by
  obtain ⟨D, h, _⟩ := h
  exact h.lt
theorem OMap.block {w w' : World} {b n : Nat} {S : Int → Int → Bool} (h : OMap w b n S) (hb : w'.heap[b]? = w.heap[b]?) : OMap w' b n S := by
  obtain ⟨D, ⟨es, clock, hh, r⟩, h2⟩ := h
  exact ⟨D, ⟨es, clock, hb.trans hh, r⟩, h2⟩
theorem OMap.below {w w' : World} {b n : Nat} {S : Int → Int → Bool} (h : OMap w b n S) (hb : Below w.heap.size w w') : OMap w' b n S := h.block (hb.block b h.lt)
theorem OMap.mk {w w' : World} {b n lo hi : Nat} {S : Int → Int → Bool} (h : OMap w b n S) (hm : Mk lo hi w w') (hn : b < lo ∨ hi ≤ b) : OMap w' b n S :=
  h.block (by rcases hn with h1 | h1; exact hm.below.block b h1; exact hm.keep b h1 h.lt)
section
variable {ops : Array Oper}
theorem wpD_put_omap {o : Oper} {rest : List (Oper × Tag)} {a : Act} {w : World} {Q : Act → World → Prop} (hgd : o.guard = none) (m k u : Operand) (hop : o.op = Op.mapUpdate 152 m k u) (b n : Nat) (S : Int → Int → Bool) (hm : a.eval m = .map (some b)) (h : OMap w b n S) (x y : Int) (hx : W64 x) (hy : W64 y) (A : Option Addr) (v c : Nat) (hv1 : 1 ≤ v) (hv2 : v ≤ 1000000) (hn : n < maxLen) (hk : a.eval k = .agg #[.int .i64 x, .int .i64 y]) (hu : a.eval u = .slice A v c)
    (hK : ∀ w', OMap w' b (n + 1) (fun i j => S i j || decide (i = x ∧ j = y)) → Mk b (b + 1) w w' → wpD Tryz.prog ops Q rest (a.put o.dst undef) w') : wpD Tryz.prog ops Q ((o, .b) :: rest) a w := by
  refine wpD_b fun K hK' => ?_
  have hw : Region.wanted o (yielded ops a.tmps) = true := by simp [Region.wanted, hgd]
  rw [if_pos hw]
  obtain ⟨D, hown, hat, hall⟩ := h
  have hl := hown.lt
  have hD := hown.isMap
  have hkl := pt_keyed.key (keyOf_pt hx hy)
  obtain ⟨w', hrun, h1, h2⟩ := hown.update pt_keyed Tryz.underlying152 hn (keyOf_pt hx hy) (show lenElem (.slice A v c) = some (.lit (.int .i64 (v : Int)), []) from rfl)
  unfold execOp
  simp only [hop, hm, hk, hu, Sem.run_bind, Sem.run_pure, hrun, Result.andThen_ok]
  refine hK' _ _ (hK w' ⟨_, h1, fun i j hi hj => ?_, fun kl hkl' => ?_⟩ ⟨(Below.refl b w).grown h2 (Nat.le_of_lt hl) (fun j hj => by cases hj; exact Nat.le_refl _), h2.size, fun i hi hlt => h2.block i hlt (fun hh => by injection hh with hh; omega)⟩)
  · by_cases hij : i = x ∧ j = y
    · obtain ⟨rfl, rfl⟩ := hij
      rw [Maps.has_put_same hD hkl]; simp
    · rw [Maps.has_put_other (fun e => hij (pkey_inj hi hj hx hy e)), hat i j hi hj]; simp [hij]
  · by_cases he : kl = pkey x y
    · subst he
      exact ⟨x, y, hx, hy, rfl, v, hv1, hv2, fun z => Maps.atKey_put_same hD hkl _ _⟩
    · rw [Maps.has_put_other he] at hkl'
      obtain ⟨i, j, hi, hj, e, m', h3, h4, h5⟩ := hall kl hkl'
      exact ⟨i, j, hi, hj, e, m', h3, h4, fun z => by rw [Maps.atKey_put_other he]; exact h5 z⟩
/-- nothing is struck where nothing stands -/
theorem wpD_del_omap {o : Oper} {rest : List (Oper × Tag)} {a : Act} {w : World} {Q : Act → World → Prop} (hgd : o.guard = none) (m k : Operand) (hop : o.op = Op.call { callee := Callee.builtin Builtin.delete, args := #[m, k], argTypes := #[152, 57] }) (b n : Nat) (S : Int → Int → Bool) (hm : a.eval m = .map (some b)) (h : OMap w b n S) (x y : Int) (hx : W64 x) (hy : W64 y) (hno : S x y = false) (hk : a.eval k = .agg #[.int .i64 x, .int .i64 y])
    (hK : ∀ w', OMap w' b n S → Mk b (b + 1) w w' → wpD Tryz.prog ops Q rest (a.put o.dst (.tuple #[])) w') : wpD Tryz.prog ops Q ((o, .b) :: rest) a w := by
  refine wpD_b fun K hK' => ?_
  have hw : Region.wanted o (yielded ops a.tmps) = true := by simp [Region.wanted, hgd]
  rw [if_pos hw]
  obtain ⟨D, hown, hat, hall⟩ := h
  have hl := hown.lt
  obtain ⟨w', hrun, h1, h2⟩ := hown.drop pt_keyed Tryz.underlying152 (keyOf_pt hx hy) o.type
  rw [Maps.del_of_not_has (by rw [hat x y hx hy]; exact hno)] at h1
  have h2 := h2.grown
  unfold execOp
  simp only [hop, resolve, invoke, builtin, Sem.run_bind, Sem.run_pure, Result.andThen_ok, List.map_toArray, List.map_cons, List.map_nil, hm, hk, hrun]
  exact hK' _ _ (hK w' ⟨D, h1, hat, hall⟩ ⟨(Below.refl b w).grown h2 (Nat.le_of_lt hl) (fun j hj => by cases hj; exact Nat.le_refl _), h2.size, fun i hi hlt => h2.block i hlt (fun hh => by injection hh with hh; omega)⟩)
end
end Go.Proofs.YthieodccakphiaaGreat
/- Walks: the tile at a point; with what strength a tile binds at a point. -/

namespace Go.Proofs.YthieodccakphiaaGreat
open Go.RowKit Go.Shelf
attribute [local go_sem] BelowBy.cell BelowBy.cell_drew stillUpon givesUpon BelowBy.cell_drew2 BelowBy.cell_drew3

/-- the tile at a point, or -1 -/
noncomputable def atI (xs : List Pl) (x y : Int) : Int := if placeI xs x y < 0 then -1 else match xs[(placeI xs x y).toNat]? with
  | some e => e.t
  | none => -1
theorem atI_none {xs : List Pl} {x y : Int} (h : placeI xs x y = -1) : atI xs x y = -1 := by unfold atI; rw [h, if_pos (by decide)]
theorem atI_some {xs : List Pl} {x y : Int} {k : Nat} {e : Pl} (h : placeI xs x y = k) (he : xs[k]? = some e) : atI xs x y = e.t := by
  unfold atI; rw [h, if_neg (by omega)]
  have : ((k : Nat) : Int).toNat = k := by omega
  simp only [this, he]
theorem atI_cases {gs : List Gl} {ts : List Ti} {xs : List Pl} (hV : Valid gs ts xs) (x y : Int) : (placeI xs x y = -1 ∧ atI xs x y = -1) ∨ ∃ (k t : Nat) (e : Pl), placeI xs x y = k ∧ xs[k]? = some e ∧ e.t = t ∧ t < ts.length ∧ atI xs x y = t := by
  rcases placeI_cases xs x y with h | ⟨k, h, hk⟩
  · exact Or.inl ⟨h, atI_none h⟩
  · have he := List.getElem?_eq_getElem hk
    obtain ⟨t, ht, htl⟩ := hV.ti k _ he
    exact Or.inr ⟨k, t, _, h, he, ht, htl, by rw [atI_some h he, ht]⟩
noncomputable def bindN (gs : List Gl) (ts : List Ti) (xs : List Pl) (x y : Int) (t : Nat) : Nat → Int
  | 0 => 0
  | k + 1 => bindN gs ts xs x y t k + (if 0 ≤ atI xs (stepX x k) (stepY y k) then bondI gs ts t k (atI xs (stepX x k) (stepY y k)).toNat else 0)
theorem strI_nonneg {gs : List Gl} {ts : List Ti} {xs : List Pl} (hV : Valid gs ts xs) (v : Int) : 0 ≤ strI gs v := by
  unfold strI
  split
  · decide
  · split
    · decide
    · rename_i g hg
      have := (hV.str _ _ hg).1
      omega
theorem bondI_nonneg {gs : List Gl} {ts : List Ti} {xs : List Pl} (hV : Valid gs ts xs) (a d b : Nat) : 0 ≤ bondI gs ts a d b := by
  unfold bondI
  split
  · exact strI_nonneg hV _
  · decide
theorem bindN_bound {gs : List Gl} {ts : List Ti} {xs : List Pl} (hV : Valid gs ts xs) (x y : Int) (t k : Nat) : 0 ≤ bindN gs ts xs x y t k ∧ bindN gs ts xs x y t k ≤ 4 * (k : Int) := by
  induction k with
  | zero => simp [bindN]
  | succ k ih =>
    simp only [bindN]
    have h1 := bondI_nonneg hV t k (atI xs (stepX x k) (stepY y k)).toNat
    have h2 := bondI_le hV t k (atI xs (stepX x k) (stepY y k)).toNat
    split <;> omega
theorem l03Index_at {op p : Nat} {gs : List Gl} {ts : List Ti} {xs : List Pl} {x y r : Int} {w : World} (ha : AsmAt w p op xs) (hV : Valid gs ts xs) (h : placeI xs x y = r) :
    Calls Tryz.prog 72 #[.pointer (some ⟨p, op, none⟩), .agg #[.int .i64 x, .int .i64 y]] w fun e w' => e = .returned (.int .i64 r) ∧ Below w.heap.size w w' := by
  rw [← h]; exact l03Index_any p gs ts xs x y w ha hV
set_option maxHeartbeats 1000000 in
theorem l03At_any {op : Nat} (p : Nat) (gs : List Gl) (ts : List Ti) (xs : List Pl) (x y r : Int) (w : World) (ha : AsmAt w p op xs) (hV : Valid gs ts xs) (hr : atI xs x y = r) :
    Calls Tryz.prog 112 #[.pointer (some ⟨p, op, none⟩), .agg #[.int .i64 x, .int .i64 y]] w fun e w' => e = .returned (.int .i64 r) ∧ Below w.heap.size w w' := by
  
  obtain ⟨hlt, ⟨A, n, c, h1, h2⟩⟩ := id ha
  have hl := h2.len
  subst hr
  rcases atI_cases hV x y with ⟨h0, hat⟩ | ⟨k, t, e, h0, he, ht, htl, hat⟩
  · have hatH := Lib.hid hat
    have h0H := Lib.hid h0
    clear hat h0 h2
    go_enter Tryz.func112, Tryz.ntmps112
    go_wp2_with fail
    refine (l03Index_at (ha.below (by exact bel_)) hV h0H.out).mono ?_
    rintro e w1 ⟨rfl, hb1⟩
    go_wp2
    go_ret
    exact ⟨ret_int hatH.out.symm, by exact bel_⟩
  · have hatH := Lib.hid hat
    have h0H := Lib.hid h0
    have hkn : k < n := by rw [← hl]; exact lt_of_get he
    obtain ⟨b, o, rfl, hb, hc⟩ := h2.ptr (by omega)
    obtain ⟨c0, c1, c2⟩ := hc k e he
    rw [ht] at c2
    have hk0 : (0 : Int) ≤ (k : Int) := by omega
    clear hat h0 h2 hc he ht hl
    go_enter Tryz.func112, Tryz.ntmps112
    go_wp2_with fail
    refine (l03Index_at (ha.below (by exact bel_)) hV h0H.out).mono ?_
    rintro e w1 ⟨rfl, hb1⟩
    obtain ⟨chb1, fhb1, shb1, thb1⟩ := bcell hb1
    have k1 := shb1 p (by go_simp)
    have k2 := shb1 b (by go_simp)
    go_wp2
    go_ret
    exact ⟨ret_int hatH.out.symm, by exact bel_⟩
end Go.Proofs.YthieodccakphiaaGreat
/- Walks: with what strength a tile binds at a point, by the program and by the reference. -/

namespace Go.Proofs.YthieodccakphiaaGreat
open Go.RowKit Go.Shelf
attribute [local go_sem] BelowBy.cell BelowBy.cell_drew stillUpon givesUpon BelowBy.cell_drew2 BelowBy.cell_drew3

theorem bindN_succ_none {gs : List Gl} {ts : List Ti} {xs : List Pl} {x y S : Int} {t k : Nat} (hS : bindN gs ts xs x y t k = S) (h : atI xs (stepX x k) (stepY y k) = -1) : bindN gs ts xs x y t (k + 1) = S := by
  simp only [bindN]; rw [hS, h, if_neg (by decide)]; omega
theorem bindN_succ_some {gs : List Gl} {ts : List Ti} {xs : List Pl} {x y S r : Int} {t k t2 : Nat} (hS : bindN gs ts xs x y t k = S) (h : atI xs (stepX x k) (stepY y k) = t2) (hr : bondI gs ts t k t2 = r) : bindN gs ts xs x y t (k + 1) = S + r := by
  simp only [bindN]; rw [hS, h, if_pos (by omega)]
  have : ((t2 : Nat) : Int).toNat = t2 := by omega
  rw [this, hr]
set_option maxRecDepth 100000 in
set_option maxHeartbeats 2000000 in
theorem l06Binding_any {opa : Nat} (p pa : Nat) (gs : List Gl) (ts : List Ti) (xs : List Pl) (x y : Int) (t : Nat) (w : World) (hs : SetAt w p 0 gs ts) (ha : AsmAt w pa opa xs) (hV : Valid gs ts xs) (ht : t < ts.length) (hx : -900 ≤ x ∧ x ≤ 900) (hy : -900 ≤ y ∧ y ≤ 900) :
    Calls Tryz.prog 73 #[.pointer (some ⟨p, 0, none⟩), .pointer (some ⟨pa, opa, none⟩), .agg #[.int .i64 x, .int .i64 y], .int .i64 (t : Int)] w fun e w' => e = .returned (.int .i64 (bindN gs ts xs x y t 4)) ∧ Below w.heap.size w w' := by
  
  go_enter Tryz.func73, Tryz.ntmps73
  go_wp2
  go_loopg [10, 9] 4 (fun r c s wr => ∃ k : Nat, k + r = 4 ∧ c = .int .i64 (k : Int) ∧ s = .int .i64 (bindN gs ts xs x y t k) ∧ Below w.heap.size w wr ∧ wr.cell? ⟨w.heap.size, 0, none⟩ = some (.int .i64 x) ∧ wr.cell? ⟨w.heap.size, 1, none⟩ = some (.int .i64 y) ∧ w.heap.size < wr.heap.size)
  case atStart => exact ⟨0, by omega, rfl, rfl, by exact bel_, by go_simp, by go_simp, by simp⟩
  case round =>
    obtain ⟨k, hk, rfl, rfl, hbw, y2, y3, hsz⟩ := hrel
    have hbd := bindN_bound hV x y t k
    by_cases hlt : k < 4
    · have hltI : (k : Int) < 4 := by omega
      have hk0 : (0 : Int) ≤ (k : Int) := by omega
      obtain ⟨S, hS⟩ : ∃ S, bindN gs ts xs x y t k = S := ⟨_, rfl⟩
      rw [hS] at hbd
      rw [hS]
      have hSH := Lib.hid hS
      clear hS
      have hb0 : 0 ≤ S := hbd.1
      have hb1' : S ≤ 1000 := by have := hbd.2; omega
      clear hbd
      rcases atI_cases hV (stepX x k) (stepY y k) with ⟨_, hat⟩ | ⟨i, t2, e, _, _, _, ht2, hat⟩
      · have hatH := Lib.hid hat
        have hnx := Lib.hid (bindN_succ_none hSH.out hat)
        clear hat
        go_wp2_with (first
          | (go_at_call 113; refine (l01Step_any _ _ _ _ ⟨by omega, by omega⟩ ⟨by omega, by omega⟩ ⟨by omega, by omega⟩).mono ?_; rintro e w1 ⟨rfl, hb1⟩; obtain ⟨chb1, fhb1, shb1, thb1⟩ := bcell hb1; (try have bhb10 := shb1 (w.heap.size) (by go_simp)))
          | (go_at_call 112; refine (l03At_any _ gs ts xs _ _ _ _ (ha.below (by exact bel_)) hV hatH.out).mono ?_; rintro e w2 ⟨rfl, hb2⟩; obtain ⟨chb2, fhb2, shb2, thb2⟩ := bcell hb2; (try have bhb20 := shb2 (w.heap.size) (by go_simp))))
        go_roundg (4 - (k + 1))
        case measure => omega
        case rel => exact ⟨k + 1, by omega, by go_num, by rw [hnx.out], by exact bel_, by go_simp, by go_simp, by go_simp⟩
      · obtain ⟨r, hr⟩ : ∃ r, bondI gs ts t k t2 = r := ⟨_, rfl⟩
        have hatH := Lib.hid hat
        have hrH := Lib.hid hr
        have hnx := Lib.hid (bindN_succ_some hSH.out hat hr)
        have hr0 : 0 ≤ r := by rw [← hr]; exact bondI_nonneg hV _ _ _
        have hr4 : r ≤ 4 := by rw [← hr]; exact bondI_le hV _ _ _
        have ht20 : (0 : Int) ≤ (t2 : Int) := by omega
        clear hat hr
        go_wp2_with (first
          | (go_at_call 113; refine (l01Step_any _ _ _ _ ⟨by omega, by omega⟩ ⟨by omega, by omega⟩ ⟨by omega, by omega⟩).mono ?_; rintro e w1 ⟨rfl, hb1⟩; obtain ⟨chb1, fhb1, shb1, thb1⟩ := bcell hb1; (try have bhb10 := shb1 (w.heap.size) (by go_simp)))
          | (go_at_call 112; refine (l03At_any _ gs ts xs _ _ _ _ (ha.below (by exact bel_)) hV hatH.out).mono ?_; rintro e w2 ⟨rfl, hb2⟩; obtain ⟨chb2, fhb2, shb2, thb2⟩ := bcell hb2; (try have bhb20 := shb2 (w.heap.size) (by go_simp)))
          | (go_at_call 114; refine (l02Bond_at t t2 rfl rfl (hs.below (by exact bel_)) hV ht ht2 hlt hrH.out).mono ?_; rintro e w3 ⟨rfl, hb3⟩; obtain ⟨chb3, fhb3, shb3, thb3⟩ := bcell hb3; (try have bhb30 := shb3 (w.heap.size) (by go_simp))))
        go_roundg (4 - (k + 1))
        case measure => omega
        case rel => exact ⟨k + 1, by omega, by go_num, by rw [hnx.out], by exact bel_, by go_simp, by go_simp, by go_simp⟩
    · obtain rfl : k = 4 := by omega
      go_wp2
      go_ret
      exact ⟨rfl, hbw⟩
theorem l06Binding_at {p pa opa : Nat} {gs : List Gl} {ts : List Ti} {xs : List Pl} {x y ti r : Int} (t : Nat) {w : World} (h0 : ti = t) (hs : SetAt w p 0 gs ts) (ha : AsmAt w pa opa xs) (hV : Valid gs ts xs) (ht : t < ts.length) (hx : -900 ≤ x ∧ x ≤ 900) (hy : -900 ≤ y ∧ y ≤ 900) (hr : bindN gs ts xs x y t 4 = r) :
    Calls Tryz.prog 73 #[.pointer (some ⟨p, 0, none⟩), .pointer (some ⟨pa, opa, none⟩), .agg #[.int .i64 x, .int .i64 y], .int .i64 ti] w fun e w' => e = .returned (.int .i64 r) ∧ Below w.heap.size w w' := by
  subst h0 hr; exact l06Binding_any p pa gs ts xs x y t w hs ha hV ht hx hy
end Go.Proofs.YthieodccakphiaaGreat
/- Walks: the tile of a crystal at a point; how many options it has. -/



namespace Go.Proofs.YthieodccakphiaaGreat
open Go.RowKit Go.Shelf
attribute [local go_sem] BelowBy.cell BelowBy.cell_drew stillUpon givesUpon BelowBy.cell_drew2 BelowBy.cell_drew3

theorem wpD_lookg_pmap {ops : Array Oper} {o : Oper} {rest : List (Oper × Tag)} {a : Act} {w : World} {Q : Act → World → Prop} (hgd : o.guard = none) (m k : Operand) (hop : o.op = Op.lookup 151 m k true) (b n : Nat) (M : Int → Int → Option Int) (hm : a.eval m = .map (some b)) (h : PMap w b n M) (x y : Int) (hx : W64 x) (hy : W64 y) (hk : a.eval k = .agg #[.int .i64 x, .int .i64 y])
    (hK : ∀ c : Int, (∀ v, M x y = some v → c = v) → wpD Tryz.prog ops Q rest (a.put o.dst (.tuple #[.int .i64 c, .bool (M x y).isSome])) w) : wpD Tryz.prog ops Q ((o, .g) :: rest) a w := by
  refine wpD_g fun K hK' => ?_
  have hw : Region.wanted o (yielded ops a.tmps) = true := by simp [Region.wanted, hgd]
  rw [if_pos hw]
  obtain ⟨c, hc, hrun⟩ := look_run h hx hy
  unfold execOp
  simp only [hop, hm, hk, Sem.run_bind, Sem.run_pure, hrun w (Below.refl _ _), Result.andThen_ok]
  exact ⟨Below.refl _ _, hK' _ _ (hK c hc)⟩
/-- a crystal -/
structure Crys (w : World) (p tb ob : Nat) (G : Option Addr) (n cg : Nat) (T : Option Addr) (m ct : Nat) (A : Option Addr) (q ca : Nat) (t : Int) (nt : Nat) (M : Int → Int → Option Int) : Prop where
  lt : p < w.heap.size
  c0 : w.cell? ⟨p, 0, none⟩ = some (.slice G n cg)
  c1 : w.cell? ⟨p, 1, none⟩ = some (.slice T m ct)
  c2 : w.cell? ⟨p, 2, none⟩ = some (.slice A q ca)
  c3 : w.cell? ⟨p, 3, none⟩ = some (.int .i64 t)
  c4 : w.cell? ⟨p, 4, none⟩ = some (.map (some tb))
  c5 : w.cell? ⟨p, 5, none⟩ = some (.map (some ob))
  tiles : PMap w tb nt M
section
variable {w w' : World} {p tb ob : Nat} {G : Option Addr} {n cg : Nat} {T : Option Addr} {m ct : Nat} {A : Option Addr} {q ca : Nat} {t : Int} {nt : Nat} {M : Int → Int → Option Int}
theorem Crys.below (h : Crys w p tb ob G n cg T m ct A q ca t nt M) (hb : Below w.heap.size w w') : Crys w' p tb ob G n cg T m ct A q ca t nt M :=
  ⟨Nat.lt_of_lt_of_le h.lt hb.size, (hb.cell (p := ⟨p, 0, none⟩) h.lt).trans h.c0, (hb.cell (p := ⟨p, 1, none⟩) h.lt).trans h.c1, (hb.cell (p := ⟨p, 2, none⟩) h.lt).trans h.c2, (hb.cell (p := ⟨p, 3, none⟩) h.lt).trans h.c3, (hb.cell (p := ⟨p, 4, none⟩) h.lt).trans h.c4, (hb.cell (p := ⟨p, 5, none⟩) h.lt).trans h.c5, h.tiles.below hb⟩
theorem Crys.mkd {lo hi : Nat} (h : Crys w p tb ob G n cg T m ct A q ca t nt M) (hm : Mk lo hi w w') (hp : p < lo ∨ hi ≤ p) (ht : tb < lo ∨ hi ≤ tb) : Crys w' p tb ob G n cg T m ct A q ca t nt M := by
  have hk : w'.heap[p]? = w.heap[p]? := by
    rcases hp with h1 | h1
    · exact hm.below.block p h1
    · exact hm.keep p h1 h.lt
  exact ⟨Nat.lt_of_lt_of_le h.lt hm.size, (World.cell?_of_block (a := ⟨p, 0, none⟩) hk).trans h.c0, (World.cell?_of_block (a := ⟨p, 1, none⟩) hk).trans h.c1, (World.cell?_of_block (a := ⟨p, 2, none⟩) hk).trans h.c2, (World.cell?_of_block (a := ⟨p, 3, none⟩) hk).trans h.c3, (World.cell?_of_block (a := ⟨p, 4, none⟩) hk).trans h.c4, (World.cell?_of_block (a := ⟨p, 5, none⟩) hk).trans h.c5, h.tiles.mk hm ht⟩
end
set_option maxRecDepth 100000 in
set_option maxHeartbeats 1000000 in
theorem cat_at {w : World} {p tb ob : Nat} {G : Option Addr} {n cg : Nat} {T : Option Addr} {m ct : Nat} {A : Option Addr} {q ca : Nat} {t : Int} {nt : Nat} {M : Int → Int → Option Int} (h : Crys w p tb ob G n cg T m ct A q ca t nt M) {x y r : Int} (hx : W64 x) (hy : W64 y) (hr : (M x y).getD (-1) = r) :
    Calls Tryz.prog 79 #[.pointer (some ⟨p, 0, none⟩), .agg #[.int .i64 x, .int .i64 y]] w fun e w' => e = .returned (.int .i64 r) ∧ Below w.heap.size w w' := by
  
  have hT := Lib.hid h.tiles
  have c4 := h.c4
  have lp := h.lt
  clear h
  obtain ⟨o, ho⟩ : ∃ o, M x y = o := ⟨_, rfl⟩
  have hoH := Lib.hid ho
  have hrH := Lib.hid (show o.getD (-1) = r by rw [← ho]; exact hr)
  clear hr ho
  cases o
  all_goals
    go_enter Tryz.func79, Tryz.ntmps79
    go_wp2
    refine wp_region_ord [(0, .q), (1, .q), (2, .q), (3, .q), (4, .q), (5, .g), (6, .q), (7, .q), (8, .q), (9, .q), (10, .q)] (by kernel_rfl) (by kernel_rfl) ?_
    simp only [pick, List.filterMap_cons, List.filterMap_nil, List.getElem?_toArray, List.getElem?_cons_zero, List.getElem?_cons_succ, Option.map_some]
    repeat (first
      | ((with_reducible refine wpD_p (fun K hK => ?_)); go_simp; refine hK _ ?_; clear hK K)
      | ((with_reducible refine wpD_q (fun K hK => ?_)); go_simp; (first | refine hK _ ?_ | (go_bits; refine hK _ ?_) | (go_bits; go_simp; refine hK _ ?_)); clear hK K)
      | ((with_reducible refine wpD_g (fun K hK => ?_)); go_simp; refine hK _ _ ?_; clear hK K)
      | ((with_reducible refine wpD_g (fun K hK => ?_)); go_simp; refine ⟨Grew.of_alloc _, hK _ _ ?_⟩; clear hK K))
    refine wpD_lookg_pmap rfl _ _ rfl tb nt M (by go_simp) (hT.out.below (by exact bel_)) x y hx hy (by go_simp) ?_
    intro c hc
    rw [hoH.out] at hc ⊢
    simp only [Option.isSome_some, Option.isSome_none]
    repeat (first
      | ((with_reducible refine wpD_p (fun K hK => ?_)); go_simp; refine hK _ ?_; clear hK K)
      | ((with_reducible refine wpD_q (fun K hK => ?_)); go_simp; (first | refine hK _ ?_ | (go_bits; refine hK _ ?_) | (go_bits; go_simp; refine hK _ ?_)); clear hK K)
      | ((with_reducible refine wpD_g (fun K hK => ?_)); go_simp; refine hK _ _ ?_; clear hK K)
      | ((with_reducible refine wpD_g (fun K hK => ?_)); go_simp; refine ⟨Grew.of_alloc _, hK _ _ ?_⟩; clear hK K))
    with_reducible refine wpD_nil ?_
    go_wp2
    go_ret
    refine ⟨ret_int ?_, by exact bel_⟩
    first
      | exact hrH.out
      | (rw [← hrH.out]; exact hc _ rfl)
set_option maxRecDepth 100000
theorem size_zero_iff {D : DataW Unit} (hD : Maps.Canon D) : Maps.size D = 0 ↔ ∀ kl, Maps.has D kl = false := by
  obtain ⟨es, rfl, _, hk⟩ := hD
  constructor
  · intro h kl
    cases es with
    | nil => rfl
    | cons e es => cases h
  · intro h
    cases es with
    | nil => rfl
    | cons e es =>
      have := h e.1
      simp [Maps.has, WideAt.sameKey_self (hk e (by simp))] at this
theorem omap_empty {D : DataW Unit} {S : Int → Int → Bool} (hD : Maps.Canon D) (hat : ∀ x y, W64 x → W64 y → Maps.has D (pkey x y) = S x y) (hall : ∀ kl, Maps.has D kl = true → ∃ x y : Int, W64 x ∧ W64 y ∧ kl = pkey x y ∧ ∃ m : Nat, 1 ≤ m ∧ m ≤ 1000000 ∧ ∀ z, D.atKey kl z = .lit (.int .i64 (m : Int))) : Maps.size D = 0 ↔ ∀ x y, W64 x → W64 y → S x y = false := by
  rw [size_zero_iff hD]
  constructor
  · intro h x y hx hy
    rw [← hat x y hx hy]; exact h _
  · intro h kl
    cases hh : Maps.has D kl
    · rfl
    · obtain ⟨x, y, hx, hy, rfl, _⟩ := hall kl hh
      rw [hat x y hx hy, h x y hx hy] at hh
      cases hh
end Go.Proofs.YthieodccakphiaaGreat
/- Walks: with what strength a tile binds at a point of a crystal; whether it fits. -/

namespace Go.Proofs.YthieodccakphiaaGreat
open Go.RowKit Go.Shelf
attribute [local go_sem] BelowBy.cell BelowBy.cell_drew stillUpon givesUpon BelowBy.cell_drew2 BelowBy.cell_drew3

theorem stepX_in {x : Int} {k : Nat} (h : -900 ≤ x ∧ x ≤ 900) : -1000000 ≤ stepX x k ∧ stepX x k ≤ 1000000 := by
  unfold stepX; split <;> omega
theorem stepY_in {y : Int} {k : Nat} (h : -900 ≤ y ∧ y ≤ 900) : -1000000 ≤ stepY y k ∧ stepY y k ≤ 1000000 := by
  unfold stepY; split <;> omega
set_option maxRecDepth 100000 in
set_option maxHeartbeats 2000000 in
theorem cbinding_any {p tb ob : Nat} {A : Option Addr} {q ca : Nat} {te : Int} {nt : Nat} {M : Int → Int → Option Int} (G T : Option Addr) (n cg m ct : Nat) (gs : List Gl) (ts : List Ti) (xs : List Pl) (x y : Int) (t : Nat) (w : World) (hG : RdSl 2 RGl w G n gs) (hT : RdSl 2 RTi w T m ts) (hC : Crys w p tb ob G n cg T m ct A q ca te nt M) (hM : ∀ i j, W64 i → W64 j → (M i j).getD (-1) = atI xs i j) (hV : Valid gs ts xs) (ht : t < ts.length) (hx : -900 ≤ x ∧ x ≤ 900) (hy : -900 ≤ y ∧ y ≤ 900) :
    Calls Tryz.prog 80 #[.agg #[.slice G n cg, .slice T m ct], .agg #[.int .i64 x, .int .i64 y], .int .i64 (t : Int), .func (.func 79) #[.pointer (some ⟨p, 0, none⟩)] #[]] w fun e w' => e = .returned (.int .i64 (bindN gs ts xs x y t 4)) ∧ Below w.heap.size w w' := by
  
  have hCH := Lib.hid hC
  have hMH := Lib.hid hM
  clear hC hM
  go_enter Tryz.func80, Tryz.ntmps80
  go_wp2
  go_loopg [12, 9] 4 (fun r c s wr => ∃ k : Nat, k + r = 4 ∧ c = .int .i64 (k : Int) ∧ s = .int .i64 (bindN gs ts xs x y t k) ∧ Below w.heap.size w wr ∧ wr.cell? ⟨w.heap.size, 0, none⟩ = some (.slice G n cg) ∧ wr.cell? ⟨w.heap.size, 1, none⟩ = some (.slice T m ct) ∧ wr.cell? ⟨w.heap.size + 1, 0, none⟩ = some (.int .i64 x) ∧ wr.cell? ⟨w.heap.size + 1, 1, none⟩ = some (.int .i64 y) ∧ w.heap.size + 1 < wr.heap.size)
  case atStart => exact ⟨0, by omega, rfl, rfl, by exact bel_, by go_simp, by go_simp, by go_simp, by go_simp, by simp⟩
  case round =>
    obtain ⟨k, hk, rfl, rfl, hbw, y0, y1, y2, y3, hsz⟩ := hrel
    have hbd := bindN_bound hV x y t k
    have hsz0 : w.heap.size < wr.heap.size := by omega
    by_cases hlt : k < 4
    · have hltI : (k : Int) < 4 := by omega
      have hk0 : (0 : Int) ≤ (k : Int) := by omega
      obtain ⟨S, hS⟩ : ∃ S, bindN gs ts xs x y t k = S := ⟨_, rfl⟩
      rw [hS] at hbd
      rw [hS]
      have hSH := Lib.hid hS
      clear hS
      have hb0 : 0 ≤ S := hbd.1
      have hb1' : S ≤ 1000 := by have := hbd.2; omega
      clear hbd
      have hw1 := Lib.hid (show W64 (stepX x k) from W64.of (stepX_in (by omega)))
      have hw2 := Lib.hid (show W64 (stepY y k) from W64.of (stepY_in (by omega)))
      rcases atI_cases hV (stepX x k) (stepY y k) with ⟨_, hat⟩ | ⟨i, t2, e, _, _, _, ht2, hat⟩
      · have hatH := Lib.hid hat
        have hgt := Lib.hid ((hMH.out _ _ hw1.out hw2.out).trans hat)
        have hnx := Lib.hid (bindN_succ_none hSH.out hat)
        clear hat
        go_wp2_with (first
          | (go_at_call 116; refine (step_at k rfl hlt ⟨by omega, by omega⟩ ⟨by omega, by omega⟩ rfl rfl).mono ?_; rintro e w1 ⟨rfl, hb1⟩; obtain ⟨chb1, fhb1, shb1, thb1⟩ := bcell hb1; (try have bhb10 := shb1 (w.heap.size) (by go_simp)); (try have bhb11 := shb1 (w.heap.size + 1) (by go_simp)))
          | (go_at_call 79; refine (cat_at (hCH.out.below (by exact bel_)) hw1.out hw2.out hgt.out).mono ?_; rintro e w2 ⟨rfl, hb2⟩; obtain ⟨chb2, fhb2, shb2, thb2⟩ := bcell hb2; (try have bhb20 := shb2 (w.heap.size) (by go_simp)); (try have bhb21 := shb2 (w.heap.size + 1) (by go_simp))))
        go_roundg (4 - (k + 1))
        case measure => omega
        case rel => exact ⟨k + 1, by omega, by go_num, by rw [hnx.out], by exact bel_, by go_simp, by go_simp, by go_simp, by go_simp, by go_simp⟩
      · obtain ⟨r, hr⟩ : ∃ r, bondI gs ts t k t2 = r := ⟨_, rfl⟩
        have hatH := Lib.hid hat
        have hgt := Lib.hid ((hMH.out _ _ hw1.out hw2.out).trans hat)
        have hrH := Lib.hid hr
        have hnx := Lib.hid (bindN_succ_some hSH.out hat hr)
        have hr0 : 0 ≤ r := by rw [← hr]; exact bondI_nonneg hV _ _ _
        have hr4 : r ≤ 4 := by rw [← hr]; exact bondI_le hV _ _ _
        have ht20 : (0 : Int) ≤ (t2 : Int) := by omega
        clear hat hr
        go_wp2_with (first
          | (go_at_call 116; refine (step_at k rfl hlt ⟨by omega, by omega⟩ ⟨by omega, by omega⟩ rfl rfl).mono ?_; rintro e w1 ⟨rfl, hb1⟩; obtain ⟨chb1, fhb1, shb1, thb1⟩ := bcell hb1; (try have bhb10 := shb1 (w.heap.size) (by go_simp)); (try have bhb11 := shb1 (w.heap.size + 1) (by go_simp)))
          | (go_at_call 79; refine (cat_at (hCH.out.below (by exact bel_)) hw1.out hw2.out hgt.out).mono ?_; rintro e w2 ⟨rfl, hb2⟩; obtain ⟨chb2, fhb2, shb2, thb2⟩ := bcell hb2; (try have bhb20 := shb2 (w.heap.size) (by go_simp)); (try have bhb21 := shb2 (w.heap.size + 1) (by go_simp)))
          | (go_at_call 117; refine (bond_at t k t2 rfl rfl rfl (hG.below RGl.stable (by exact bel_)) (hT.below RTi.stable (by exact bel_)) hV ht ht2 hlt hrH.out).mono ?_; rintro e w3 ⟨rfl, hb3⟩; obtain ⟨chb3, fhb3, shb3, thb3⟩ := bcell hb3; (try have bhb30 := shb3 (w.heap.size) (by go_simp)); (try have bhb31 := shb3 (w.heap.size + 1) (by go_simp))))
        go_roundg (4 - (k + 1))
        case measure => omega
        case rel => exact ⟨k + 1, by omega, by go_num, by rw [hnx.out], by exact bel_, by go_simp, by go_simp, by go_simp, by go_simp, by go_simp⟩
    · obtain rfl : k = 4 := by omega
      go_wp2
      go_ret
      exact ⟨rfl, hbw⟩
end Go.Proofs.YthieodccakphiaaGreat
/- Walk: whether a tile fits at a point of a crystal. -/

namespace Go.Proofs.YthieodccakphiaaGreat
open Go.RowKit Go.Shelf
attribute [local go_sem] BelowBy.cell BelowBy.cell_drew stillUpon givesUpon BelowBy.cell_drew2 BelowBy.cell_drew3

/-- a tile fits at a point -/
noncomputable def fitB (gs : List Gl) (ts : List Ti) (ys : List Pl) (t x y : Int) (k : Nat) : Bool := validPt x y && decide (atI ys x y < 0) && decide (t ≤ bindN gs ts ys x y k 4)
section
variable {gs : List Gl} {ts : List Ti} {ys : List Pl} {t x y : Int} {k : Nat} {b : Bool}
theorem fitB_pt (h : validPt x y = false) (hb : fitB gs ts ys t x y k = b) : false = b := by rw [← hb]; unfold fitB; rw [h]; rfl
theorem fitB_on {a : Int} (ha : atI ys x y = a) (h : ¬ a < 0) (hb : fitB gs ts ys t x y k = b) : false = b := by rw [← hb]; unfold fitB; rw [ha]; simp [h]
theorem fitB_off {a r : Int} (h1 : validPt x y = true) (ha : atI ys x y = a) (h : a < 0) (hr : bindN gs ts ys x y k 4 = r) (hb : fitB gs ts ys t x y k = b) : decide (t ≤ r) = b := by rw [← hb]; unfold fitB; rw [ha, h1, hr]; simp [h]
end
theorem cbinding_at {p tb ob : Nat} {A : Option Addr} {q ca : Nat} {te : Int} {nt : Nat} {M : Int → Int → Option Int} {G T : Option Addr} {n cg m ct : Nat} {gs : List Gl} {ts : List Ti} {xs : List Pl} {x y r : Int} {t : Nat} {w : World} (hG : RdSl 2 RGl w G n gs) (hT : RdSl 2 RTi w T m ts) (hC : Crys w p tb ob G n cg T m ct A q ca te nt M) (hM : ∀ i j, W64 i → W64 j → (M i j).getD (-1) = atI xs i j) (hV : Valid gs ts xs) (ht : t < ts.length) (hx : -900 ≤ x ∧ x ≤ 900) (hy : -900 ≤ y ∧ y ≤ 900) (hr : bindN gs ts xs x y t 4 = r) :
    Calls Tryz.prog 80 #[.agg #[.slice G n cg, .slice T m ct], .agg #[.int .i64 x, .int .i64 y], .int .i64 (t : Int), .func (.func 79) #[.pointer (some ⟨p, 0, none⟩)] #[]] w fun e w' => e = .returned (.int .i64 r) ∧ Below w.heap.size w w' :=
  hr ▸ cbinding_any G T n cg m ct gs ts xs x y t w hG hT hC hM hV ht hx hy
theorem ValidPoint_at {x y : Int} {w : World} {b : Bool} (h : validPt x y = b) :
    Calls Tryz.prog 78 #[.agg #[.int .i64 x, .int .i64 y]] w fun e w' => e = .returned (.bool b) ∧ Below w.heap.size w w' := h ▸ ValidPoint_any x y w
set_option maxRecDepth 100000 in
set_option maxHeartbeats 2000000 in
theorem fits_any {p tb ob : Nat} {A : Option Addr} {q ca : Nat} {te : Int} {nt : Nat} {M : Int → Int → Option Int} (G T : Option Addr) (n cg m ct : Nat) (gs : List Gl) (ts : List Ti) (xs : List Pl) (x y : Int) (k : Nat) (w : World) (hG : RdSl 2 RGl w G n gs) (hT : RdSl 2 RTi w T m ts) (hC : Crys w p tb ob G n cg T m ct A q ca te nt M) (hM : ∀ i j, W64 i → W64 j → (M i j).getD (-1) = atI xs i j) (hV : Valid gs ts xs) (hk : k < ts.length) (hx : -900 ≤ x ∧ x ≤ 900) (hy : -900 ≤ y ∧ y ≤ 900) {b : Bool} (hb : fitB gs ts xs te x y k = b) :
    Calls Tryz.prog 42 #[.pointer (some ⟨p, 0, none⟩), .agg #[.int .i64 x, .int .i64 y], .int .i64 (k : Int)] w fun e w' => e = .returned (.bool b) ∧ Below w.heap.size w w' := by
  
  have lp := hC.lt
  have lp' : p ≤ w.heap.size := Nat.le_of_lt lp
  have c0 := hC.c0
  have c1 := hC.c1
  have c3 := hC.c3
  have hCH := Lib.hid hC
  have hMH := Lib.hid hM
  have hbH := Lib.hid hb
  have hw1 := Lib.hid (show W64 x from W64.of (by omega))
  have hw2 := Lib.hid (show W64 y from W64.of (by omega))
  obtain ⟨a, ha⟩ : ∃ a, atI xs x y = a := ⟨_, rfl⟩
  have haH := Lib.hid ha
  have hgt := Lib.hid ((hM _ _ hw1.out hw2.out).trans ha)
  obtain ⟨r, hr⟩ : ∃ r, bindN gs ts xs x y k 4 = r := ⟨_, rfl⟩
  have hrH := Lib.hid hr
  have hGH := Lib.hid hG
  have hTH := Lib.hid hT
  clear hC hM hb ha hr hG hT
  cases hv : validPt x y
  · have hvH := Lib.hid hv
    have hres := Lib.hid (fitB_pt hv hbH.out)
    clear hv
    go_enter Tryz.func42, Tryz.ntmps42
    go_wp2
    refine wp_region_ord [(0, .q), (1, .g), (2, .q), (3, .q), (4, .q), (5, .g), (6, .q), (7, .q), (8, .q), (9, .q), (10, .q), (11, .q), (12, .q), (13, .q), (14, .q), (15, .q), (16, .q), (19, .q), (20, .q), (21, .q), (22, .q), (23, .q), (17, .g), (18, .g), (24, .q), (25, .q), (26, .q)] (by kernel_rfl) (by kernel_rfl) ?_
    simp only [pick, List.filterMap_cons, List.filterMap_nil, List.getElem?_toArray, List.getElem?_cons_zero, List.getElem?_cons_succ, Option.map_some]
    repeat (first
      | ((with_reducible refine wpD_p (fun K hK => ?_)); go_simp; refine hK _ ?_; clear hK K)
      | ((with_reducible refine wpD_q (fun K hK => ?_)); go_simp; (first | refine hK _ ?_ | (go_bits; refine hK _ ?_) | (go_bits; go_simp; refine hK _ ?_)); clear hK K)
      | ((with_reducible refine wpD_g (fun K hK => ?_)); go_simp; refine hK _ _ ?_; clear hK K)
      | ((with_reducible refine wpD_g (fun K hK => ?_)); go_simp; refine ⟨Grew.of_alloc _, hK _ _ ?_⟩; clear hK K)
      | ((with_reducible refine wpD_g (fun K hK => ?_)); go_simp; refine ⟨Below.refl _ _, hK _ _ ?_⟩; clear hK K)
      | ((with_reducible refine wpD_g (fun K hK => ?_)); go_simp; go_at_call 78; refine (ValidPoint_at hvH.out).mono ?_; rintro e w1 ⟨rfl, hb1⟩; refine ⟨_, rfl, hb1, hK _ _ ?_⟩; clear hK K; obtain ⟨chb1, fhb1, shb1, thb1⟩ := bcell hb1; (try have bhb10 := shb1 (w.heap.size) (by go_simp)); (try have bhb11 := shb1 (p) (by go_simp))))
    with_reducible refine wpD_nil ?_
    go_wp2
    go_ret
    exact ⟨ret_bool hres.out, by exact bel_⟩
  · by_cases h0 : a < 0
    · have hvH := Lib.hid hv
      have hres := Lib.hid (fitB_off hv haH.out h0 hrH.out hbH.out)
      clear hv
      go_enter Tryz.func42, Tryz.ntmps42
      go_wp2
      refine wp_region_ord [(0, .q), (1, .g), (2, .q), (3, .q), (4, .q), (5, .g), (6, .q), (7, .q), (8, .q), (9, .q), (10, .q), (11, .q), (12, .q), (13, .q), (14, .q), (15, .q), (16, .q), (19, .q), (20, .q), (21, .q), (22, .q), (23, .q), (17, .g), (18, .g), (24, .q), (25, .q), (26, .q)] (by kernel_rfl) (by kernel_rfl) ?_
      simp only [pick, List.filterMap_cons, List.filterMap_nil, List.getElem?_toArray, List.getElem?_cons_zero, List.getElem?_cons_succ, Option.map_some]
      repeat (first
        | ((with_reducible refine wpD_p (fun K hK => ?_)); go_simp; refine hK _ ?_; clear hK K)
        | ((with_reducible refine wpD_q (fun K hK => ?_)); go_simp; (first | refine hK _ ?_ | (go_bits; refine hK _ ?_) | (go_bits; go_simp; refine hK _ ?_)); clear hK K)
        | ((with_reducible refine wpD_g (fun K hK => ?_)); go_simp; refine hK _ _ ?_; clear hK K)
        | ((with_reducible refine wpD_g (fun K hK => ?_)); go_simp; refine ⟨Grew.of_alloc _, hK _ _ ?_⟩; clear hK K)
        | ((with_reducible refine wpD_g (fun K hK => ?_)); go_simp; refine ⟨Below.refl _ _, hK _ _ ?_⟩; clear hK K)
        | ((with_reducible refine wpD_g (fun K hK => ?_)); go_simp; go_at_call 78; refine (ValidPoint_at hvH.out).mono ?_; rintro e w1 ⟨rfl, hb1⟩; refine ⟨_, rfl, hb1, hK _ _ ?_⟩; clear hK K; obtain ⟨chb1, fhb1, shb1, thb1⟩ := bcell hb1; (try have bhb10 := shb1 (w.heap.size) (by go_simp)); (try have bhb11 := shb1 (p) (by go_simp)))
        | ((with_reducible refine wpD_g (fun K hK => ?_)); go_simp; go_at_call 79; refine (cat_at (hCH.out.below (by exact bel_)) hw1.out hw2.out hgt.out).mono ?_; rintro e w2 ⟨rfl, hb2⟩; refine ⟨_, rfl, hb2, hK _ _ ?_⟩; clear hK K; obtain ⟨chb2, fhb2, shb2, thb2⟩ := bcell hb2; (try have bhb20 := shb2 (w.heap.size) (by go_simp)); (try have bhb21 := shb2 (p) (by go_simp))))
      with_reducible refine wpD_g (fun K hK => ?_)
      go_simp
      refine (cbinding_at (hGH.out.below RGl.stable (by exact bel_)) (hTH.out.below RTi.stable (by exact bel_)) (hCH.out.below (by exact bel_)) hMH.out hV hk hx hy hrH.out).mono ?_
      rintro e' w3 ⟨rfl, hb3⟩
      refine ⟨_, rfl, hb3, hK _ _ ?_⟩
      clear hK K
      obtain ⟨chb3, fhb3, shb3, thb3⟩ := bcell hb3
      (try have b31 := shb3 p (by go_simp))
      repeat (first
        | ((with_reducible refine wpD_p (fun K hK => ?_)); go_simp; refine hK _ ?_; clear hK K)
        | ((with_reducible refine wpD_q (fun K hK => ?_)); go_simp; (first | refine hK _ ?_ | (go_bits; refine hK _ ?_) | (go_bits; go_simp; refine hK _ ?_)); clear hK K)
        | ((with_reducible refine wpD_g (fun K hK => ?_)); go_simp; refine hK _ _ ?_; clear hK K)
        | ((with_reducible refine wpD_g (fun K hK => ?_)); go_simp; refine ⟨Grew.of_alloc _, hK _ _ ?_⟩; clear hK K))
      with_reducible refine wpD_nil ?_
      go_wp2
      go_ret
      exact ⟨ret_bool hres.out, by exact bel_⟩
    · have hvH := Lib.hid hv
      have hres := Lib.hid (fitB_on haH.out h0 hbH.out)
      have h1 : 0 ≤ a := by omega
      have h2 : decide (a < 0) = false := decide_eq_false h0
      clear hv
      go_enter Tryz.func42, Tryz.ntmps42
      go_wp2
      refine wp_region_ord [(0, .q), (1, .g), (2, .q), (3, .q), (4, .q), (5, .g), (6, .q), (7, .q), (8, .q), (9, .q), (10, .q), (11, .q), (12, .q), (13, .q), (14, .q), (15, .q), (16, .q), (19, .q), (20, .q), (21, .q), (22, .q), (23, .q), (17, .g), (18, .g), (24, .q), (25, .q), (26, .q)] (by kernel_rfl) (by kernel_rfl) ?_
      simp only [pick, List.filterMap_cons, List.filterMap_nil, List.getElem?_toArray, List.getElem?_cons_zero, List.getElem?_cons_succ, Option.map_some]
      repeat (first
        | ((with_reducible refine wpD_p (fun K hK => ?_)); go_simp; refine hK _ ?_; clear hK K)
        | ((with_reducible refine wpD_q (fun K hK => ?_)); go_simp; (first | refine hK _ ?_ | (go_bits; refine hK _ ?_) | (go_bits; go_simp; refine hK _ ?_)); clear hK K)
        | ((with_reducible refine wpD_g (fun K hK => ?_)); go_simp; refine hK _ _ ?_; clear hK K)
        | ((with_reducible refine wpD_g (fun K hK => ?_)); go_simp; refine ⟨Grew.of_alloc _, hK _ _ ?_⟩; clear hK K)
        | ((with_reducible refine wpD_g (fun K hK => ?_)); go_simp; refine ⟨Below.refl _ _, hK _ _ ?_⟩; clear hK K)
        | ((with_reducible refine wpD_g (fun K hK => ?_)); go_simp; go_at_call 78; refine (ValidPoint_at hvH.out).mono ?_; rintro e w1 ⟨rfl, hb1⟩; refine ⟨_, rfl, hb1, hK _ _ ?_⟩; clear hK K; obtain ⟨chb1, fhb1, shb1, thb1⟩ := bcell hb1; (try have bhb10 := shb1 (w.heap.size) (by go_simp)); (try have bhb11 := shb1 (p) (by go_simp)))
        | ((with_reducible refine wpD_g (fun K hK => ?_)); go_simp; go_at_call 79; refine (cat_at (hCH.out.below (by exact bel_)) hw1.out hw2.out hgt.out).mono ?_; rintro e w2 ⟨rfl, hb2⟩; refine ⟨_, rfl, hb2, hK _ _ ?_⟩; clear hK K; obtain ⟨chb2, fhb2, shb2, thb2⟩ := bcell hb2; (try have bhb20 := shb2 (w.heap.size) (by go_simp)); (try have bhb21 := shb2 (p) (by go_simp))))
      with_reducible refine wpD_nil ?_
      go_wp2
      go_ret
      exact ⟨ret_bool hres.out, by exact bel_⟩
end Go.Proofs.YthieodccakphiaaGreat
