import Derived.Test.YtpnahobgmemdjaaGAH
import Derived.Test.YtpnahobgmemdjaaGAI
import Derived.Test.YtpnahobgmemdjaaGAF
import Derived.Test.YtpnahobgmemdjaaShelf
import Derived.Sort.OwnSortedInts
import Derived.Test.YtpnahobgmemdjaaGAG
set_option linter.unusedSimpArgs false
set_option linter.unusedVariables false
/- Points by their places in a shape; maps from points to bools that a call makes. -/




namespace Go.Proofs.Ytpnahobgmemdjaa
open Go.RowKit Go.Shelf
open Go.Maps (Keyed)
set_option maxRecDepth 100000
/-- points in ascending order, all valid -/
structure Shp (ps : List Pt) : Prop where
  pt : ∀ (k : Nat) (e : Pt), ps[k]? = some e → (-60 ≤ e.x ∧ e.x ≤ 60) ∧ (-60 ≤ e.y ∧ e.y ≤ 60)
  sorted : ∀ (i j : Nat) (d e : Pt), i < j → ps[i]? = some d → ps[j]? = some e → lessPt d.x d.y e.x e.y = true
theorem lessPt_irrefl (x y : Int) : lessPt x y x y = false := by simp [lessPt, cmpPt, orI, cmpI]
theorem Shp.inj {ps : List Pt} (h : Shp ps) {i j : Nat} {e : Pt} (hi : ps[i]? = some e) (hj : ps[j]? = some e) : i = j := by
  rcases Nat.lt_trichotomy i j with hlt | heq | hlt
  · have := h.sorted i j e e hlt hi hj
    rw [lessPt_irrefl] at this
    cases this
  · exact heq
  · have := h.sorted j i e e hlt hj hi
    rw [lessPt_irrefl] at this
    cases this
/-- the place of a point -/
def idxP (ps : List Pt) (x y : Int) : Option Nat := ps.findIdx? fun e => e.x == x && e.y == y
theorem idxP_some {ps : List Pt} {x y : Int} {k : Nat} (h : idxP ps x y = some k) : ps[k]? = some ⟨x, y⟩ := by
  unfold idxP at h
  rw [List.findIdx?_eq_some_iff_getElem] at h
  obtain ⟨hk, hp, _⟩ := h
  simp only [Bool.and_eq_true, beq_iff_eq] at hp
  rw [List.getElem?_eq_getElem hk]
  have : ps[k] = ⟨x, y⟩ := by
    cases hh : ps[k] with
    | mk a b => rw [hh] at hp; simp only at hp; rw [hp.1, hp.2]
  rw [this]
theorem idxP_none {ps : List Pt} {x y : Int} (h : idxP ps x y = none) (k : Nat) : ps[k]? ≠ some ⟨x, y⟩ := by
  intro hk
  unfold idxP at h
  rw [List.findIdx?_eq_none_iff] at h
  have := h _ (List.mem_of_getElem? hk)
  simp at this
theorem Shp.idx {ps : List Pt} (h : Shp ps) {k : Nat} {e : Pt} (hk : ps[k]? = some e) : idxP ps e.x e.y = some k := by
  cases hi : idxP ps e.x e.y with
  | none => exact absurd hk (idxP_none hi k)
  | some j => rw [h.inj hk (idxP_some hi)]
/-- the neighbor of a point, by their places -/
def nbP (ps : List Pt) (u d : Nat) : Option Nat := match ps[u]? with
  | some e => idxP ps (stepX e.x d) (stepY e.y d)
  | none => none
theorem nbP_sym {ps : List Pt} (h : Shp ps) (u d v : Nat) (hu : u < ps.length) (hd : d < 4) (hv : nbP ps u d = some v) : v < ps.length ∧ ∃ e, e < 4 ∧ nbP ps v e = some u := by
  obtain ⟨e, he⟩ : ∃ e, ps[u]? = some e := ⟨_, List.getElem?_eq_getElem hu⟩
  unfold nbP at hv
  rw [he] at hv
  simp only at hv
  have hk := idxP_some hv
  refine ⟨(List.getElem?_eq_some_iff.1 hk).1, (d + 2) % 4, by omega, ?_⟩
  unfold nbP
  rw [hk]
  simp only
  have hb : stepX (stepX e.x d) (((d + 2) % 4 : Nat) : Int) = e.x ∧ stepY (stepY e.y d) (((d + 2) % 4 : Nat) : Int) = e.y := by
    have : d = 0 ∨ d = 1 ∨ d = 2 ∨ d = 3 := by omega
    rcases this with rfl | rfl | rfl | rfl <;> simp [stepX, stepY]
  rw [hb.1, hb.2]
  exact h.idx he
/-- the points that are not yet taken -/
def leftB (ps : List Pt) (nm : List Nat) (x y : Int) : Bool := match idxP ps x y with
  | some v => decide (nm[v]? = some 0)
  | none => false
theorem leftB_set {ps : List Pt} (h : Shp ps) {nm : List Nat} {v c : Nat} {e : Pt} (he : ps[v]? = some e) (hv : v < nm.length) (hc : c ≠ 0) (x y : Int) : leftB ps (nm.set v c) x y = (leftB ps nm x y && !decide (x = e.x ∧ y = e.y)) := by
  unfold leftB
  cases hi : idxP ps x y with
  | none => simp
  | some k =>
    have hk := idxP_some hi
    by_cases hkv : v = k
    · subst hkv
      rw [he] at hk
      injection hk with hk
      subst hk
      simp only [List.getElem?_set_self hv]
      simp [hc]
    · simp only [List.getElem?_set_ne hkv]
      have hne : ¬ (x = e.x ∧ y = e.y) := fun hh => by
        obtain ⟨rfl, rfl⟩ := hh
        exact hkv (h.inj he hk)
      simp [hne]
/-- block b maps points to bools: S; at most n were laid in -/
def LMap (w : World) (b n : Nat) (S : Int → Int → Bool) : Prop :=
  ∃ D : DataW Unit, w.ownsMap Try.prog 34 (plainElem Try.prog 4) b n D ∧ ∀ x y, W64 x → W64 y → D.atKey (pkey x y) (.lit (.bool false)) = .lit (.bool (S x y))
section
variable {w w' : World} {b n : Nat} {S S' : Int → Int → Bool}
theorem LMap.made (w : World) : LMap (w.alloc (.map #[] 0)) w.heap.size 0 (fun _ _ => false) :=
  ⟨_, World.ownsMap_made _ _ _ _, fun x y _ _ => WideAt.atKey_none _ (fun p hp => by simp at hp)⟩
theorem LMap.lt (h : LMap w b n S) : b < w.heap.size := by
  obtain ⟨D, h, _⟩ := h
  exact h.lt
theorem LMap.block (h : LMap w b n S) (hb : w'.heap[b]? = w.heap[b]?) : LMap w' b n S := by
  obtain ⟨D, ⟨es, clock, hh, r⟩, h2⟩ := h
  exact ⟨D, ⟨es, clock, hb.trans hh, r⟩, h2⟩
theorem LMap.below (h : LMap w b n S) (hb : Below w.heap.size w w') : LMap w' b n S := h.block (hb.block b h.lt)
theorem LMap.say (h : LMap w b n S) (hS : ∀ x y, S x y = S' x y) : LMap w b n S' := by
  obtain rfl : S = S' := funext fun x => funext fun y => hS x y
  exact h
end
section
variable {ops : Array Oper} {rest : List Oper} {o : Oper} {a : Act} {Q : Exit → Act → World → Prop}
theorem zero_bo (w : World) : (zeroValue 4).run Try.prog w = .ok (.bool false) w := by kernel_rfl
theorem wpList_look_lmap (w : World) (hg : o.guard = none) (m k : Operand) (hop : o.op = Op.lookup 93 m k false) (b n : Nat) (S : Int → Int → Bool) (hm : a.eval m = .map (some b)) (h : LMap w b n S) (x y : Int) (hx : W64 x) (hy : W64 y) (hk : a.eval k = .agg #[.int .i64 x, .int .i64 y])
    (hK : wpList Try.prog ops Q rest (a.put o.dst (.bool (S x y))) w) : wpList Try.prog ops Q (o :: rest) a w := by
  obtain ⟨D, hown, hat⟩ := h
  have hw : Region.wanted o (yielded ops a.tmps) = true := by simp [Region.wanted, hg]
  refine wpList_wanted hw fun K' hK' => ?_
  obtain ⟨v, ps, hrun, hv⟩ := hown.lookup pt_keyed Try.underlying93 (zero_bo w) (plainElem_bool Try.underlying4 false) (keyOf_pt hx hy)
  rw [hat x y hx hy] at hv
  obtain rfl := plainElem_bool_inv Try.underlying4 hv
  unfold Oper.wp
  simp [execOp, hop, hm, hk, hrun, Result.andThen]
  exact hK' _ _ hK
theorem wpList_put_lmap (w : World) (hg : o.guard = none) (m k u : Operand) (hop : o.op = Op.mapUpdate 93 m k u) (b n : Nat) (S : Int → Int → Bool) (hm : a.eval m = .map (some b)) (h : LMap w b n S) (x y : Int) (hx : W64 x) (hy : W64 y) (hn : n < maxLen) (hk : a.eval k = .agg #[.int .i64 x, .int .i64 y]) (hu : a.eval u = .bool true)
    (hK : ∀ w', LMap w' b (n + 1) (fun i j => S i j || decide (i = x ∧ j = y)) → w.grownBy w' (some b) → wpList Try.prog ops Q rest (a.put o.dst undef) w') : wpList Try.prog ops Q (o :: rest) a w := by
  obtain ⟨D, hown, hat⟩ := h
  refine wpList_mapUpdate_own w hg m k u 93 hop _ _ pt_keyed Try.underlying93 _ b n D hm hown hn _ _ _ hk hu (keyOf_pt hx hy) _ [] (plainElem_bool Try.underlying4 true) ?_
  intro w' h1 h2
  refine hK w' ⟨_, h1, fun i j hi hj => ?_⟩ h2
  by_cases hij : i = x ∧ j = y
  · obtain ⟨rfl, rfl⟩ := hij
    rw [Maps.atKey_put_same hown.isMap (pt_keyed.key (keyOf_pt hi hj))]
    simp
  · rw [Maps.atKey_put_other (fun e => hij (pkey_inj hi hj hx hy e)), hat i j hi hj]
    simp [hij]
theorem wpList_del_lmap (w : World) (hg : o.guard = none) (m k : Operand) (hop : o.op = Op.call { callee := Callee.builtin Builtin.delete, args := #[m, k], argTypes := #[93, 34] }) (b n : Nat) (S : Int → Int → Bool) (hm : a.eval m = .map (some b)) (h : LMap w b n S) (x y : Int) (hx : W64 x) (hy : W64 y) (hk : a.eval k = .agg #[.int .i64 x, .int .i64 y])
    (hK : ∀ w', LMap w' b n (fun i j => S i j && !decide (i = x ∧ j = y)) → w.grownBy w' (some b) → wpList Try.prog ops Q rest (a.put o.dst (.tuple #[])) w') : wpList Try.prog ops Q (o :: rest) a w := by
  obtain ⟨D, hown, hat⟩ := h
  refine wpList_delete_own w hg m k 93 34 hop 4 pt_keyed Try.underlying93 _ b n D hm hown _ _ hk (keyOf_pt hx hy) ?_
  intro w' h1 h2
  refine hK w' ⟨_, h1, fun i j hi hj => ?_⟩ h2.grown
  by_cases hij : i = x ∧ j = y
  · obtain ⟨rfl, rfl⟩ := hij
    rw [Maps.atKey_del_same]
    simp
  · rw [Maps.atKey_del_other (fun e => hij (pkey_inj hi hj hx hy e)), hat i j hi hj]
    simp [hij]
end
end Go.Proofs.Ytpnahobgmemdjaa
/- slices.SortFunc at rows of points that a call has made. -/



namespace Go.Proofs.Ytpnahobgmemdjaa
open Go.RowKit Go.Shelf Go.Lib Go.Sort
attribute [local go_sem] BelowBy.cell BelowBy.cell_drew stillUpon givesUpon

set_option maxRecDepth 100000
def encPt (p : Pt) : List Value := [.int .i64 p.x, .int .i64 p.y]
def cmpP (x y : Pt) : Int := cmpPt x.x x.y y.x y.y
theorem comparePoints_exact (x y : Pt) (w : World) :
    Calls Try.prog 71 #[.agg #[.int .i64 x.x, .int .i64 x.y], .agg #[.int .i64 y.x, .int .i64 y.y]] w fun e w' => e = .returned (.int .i64 (cmpP x y)) ∧ ∃ q os, w' = grow (w.drewN q) os := by
  go_enter Try.func71, Try.ntmps71
  go_wp2
  refine wp_region_ord [(0, .q), (1, .q), (2, .q), (3, .q), (5, .q), (6, .q), (7, .q), (8, .q), (4, .g), (9, .g), (10, .g), (11, .g), (12, .q)] (by kernel_rfl) (by kernel_rfl) ?_
  simp only [pick, List.filterMap_cons, List.filterMap_nil, List.getElem?_toArray, List.getElem?_cons_zero, List.getElem?_cons_succ, Option.map_some]
  repeat (first | ((with_reducible refine wpD_p (fun K hK => ?_)); go_simp; refine hK _ ?_; clear hK K) | ((with_reducible refine wpD_q (fun K hK => ?_)); go_simp; (first | refine hK _ ?_ | (go_bits; refine hK _ ?_) | (go_bits; go_simp; refine hK _ ?_)); clear hK K))
  with_reducible refine wpD_g (fun K hK => ?_)
  go_simp
  refine (Compare_any _ _ _).mono ?_
  rintro e _ ⟨rfl, rfl⟩
  refine ⟨_, rfl, Below.refl _ _, hK _ _ ?_⟩
  clear hK K
  with_reducible refine wpD_g (fun K hK => ?_)
  go_simp
  refine (Compare_any _ _ _).mono ?_
  rintro e _ ⟨rfl, rfl⟩
  refine ⟨_, rfl, Below.refl _ _, hK _ _ ?_⟩
  clear hK K
  with_reducible refine wpD_g (fun K hK => ?_)
  go_simp
  refine ⟨Grew.of_alloc _, hK _ _ ?_⟩
  clear hK K
  with_reducible refine wpD_g (fun K hK => ?_)
  go_simp
  refine (Or_any (cmpI x.y y.y) (cmpI x.x y.x) _ _ _ _ (by go_simp) (by go_simp)).mono ?_
  rintro e _ ⟨rfl, rfl⟩
  refine ⟨_, rfl, Below.refl _ _, hK _ _ ?_⟩
  clear hK K
  repeat (first | ((with_reducible refine wpD_p (fun K hK => ?_)); go_simp; refine hK _ ?_; clear hK K) | ((with_reducible refine wpD_q (fun K hK => ?_)); go_simp; (first | refine hK _ ?_ | (go_bits; refine hK _ ?_) | (go_bits; go_simp; refine hK _ ?_)); clear hK K))
  with_reducible refine wpD_nil ?_
  go_wp2
  go_ret
  refine ⟨rfl, ?_⟩
  simp only [alloc_eq_grow, drew_grow, grow_grow, World.drew_is_drewN, World.drewN_drewN]
  exact ⟨_, _, rfl⟩
theorem ltOf_cmpP (x y : Pt) : ltOf cmpP x y = lessPt x.x x.y y.x y.y := rfl
theorem lessPt_said (a b c d : Int) : lessPt a b c d = decide (b < d ∨ (b = d ∧ a < c)) := by
  unfold lessPt cmpPt orI cmpI
  by_cases h1 : b < d
  · simp [h1]
  · by_cases h2 : d < b
    · have : ¬ b = d := by omega
      simp [h1, h2, this]
    · obtain rfl : b = d := by omega
      by_cases h3 : a < c
      · simp [h3]
      · by_cases h4 : c < a
        · simp [h3, h4]
        · simp [h3, h4]
theorem swo_cmpP : SWO (ltOf cmpP) where
  irrefl x := by rw [ltOf_cmpP]; exact lessPt_irrefl _ _
  trans x y z h1 h2 := by
    rw [ltOf_cmpP, lessPt_said, decide_eq_true_eq] at *
    omega
  ntrans x y z h1 h2 := by
    rw [ltOf_cmpP, lessPt_said, decide_eq_false_iff_not] at *
    omega
theorem part_cmpP (x y : Pt) (h1 : ltOf cmpP x y = false) (h2 : ltOf cmpP y x = false) : x = y := by
  rw [ltOf_cmpP, lessPt_said, decide_eq_false_iff_not] at *
  cases x
  cases y
  simp only [Pt.mk.injEq]
  simp only at h1 h2
  omega
/-- points in order -/
def sortP (L : List Pt) : List Pt := L.mergeSort fun x y => !(ltOf cmpP) y x
theorem sortP_len (L : List Pt) : (sortP L).length = L.length := List.length_mergeSort _
theorem flat_pt (L : List Pt) : (flatK encPt 2 L.toArray).toList = ptCells L := by
  apply List.ext_getElem?
  intro t
  rw [Array.getElem?_toList]
  by_cases ht : t < L.length * 2
  · have hs : t < (flatK encPt 2 L.toArray).size := by rw [size_flatK]; simpa using ht
    have h1 : (flatK encPt 2 L.toArray)[t]? = some (flatK encPt 2 L.toArray)[t]! := by rw [getElem!_pos _ t hs, Array.getElem?_eq_getElem hs]
    rw [h1, get_flatK _ _ _ _ (by simpa using ht)]
    have hq : t / 2 < L.length := by omega
    have hg := ptCells_get L (t / 2) _ (List.getElem?_eq_getElem hq)
    have he : L.toArray[t / 2]! = L[t / 2] := by rw [getElem!_pos _ _ (by simpa using hq)]; simp
    rw [he]
    rcases (show t % 2 = 0 ∨ t % 2 = 1 by omega) with hm | hm
    · rw [hm]
      have : t / 2 * 2 = t := by omega
      rw [this] at hg
      rw [hg.1]; rfl
    · rw [hm]
      have : t / 2 * 2 + 1 = t := by omega
      rw [this] at hg
      rw [hg.2]; rfl
  · rw [Array.getElem?_eq_none (by rw [size_flatK]; simpa using ht), List.getElem?_eq_none (by rw [ptCells_len]; omega)]
theorem holds_row {w : World} {g : Nat} {cur : Array Value} {e : TypeId} {L : List Pt} (hb : w.heap[g]? = some (.cells cur e (0, 0))) (ht : cur.toList.take (L.length * 2) = ptCells L) : HoldsK encPt 2 w g 0 L.toArray := by
  intro j hj
  rw [size_flatK] at hj
  have hj' : j < L.length * 2 := by simpa using hj
  refine ⟨?_, by simp [World.frozen?, hb]⟩
  have h1 : (cur.toList.take (L.length * 2))[j]? = (ptCells L)[j]? := by rw [ht]
  rw [List.getElem?_take_of_lt hj', ← flat_pt, Array.getElem?_toList, Array.getElem?_toList] at h1
  have hs : j < (flatK encPt 2 L.toArray).size := by rw [size_flatK]; simpa using hj'
  simp only [World.cell?, hb, Nat.zero_add]
  simp only [Option.isSome_none, Bool.false_eq_true, if_false, id]
  rw [h1, getElem!_pos _ j hs, Array.getElem?_eq_getElem hs]
theorem heap_sortedK {w : World} {g n : Nat} {os : Array Obj} {cur : Array Value} {e : TypeId} {fr : Nat × Nat} (d : Array Pt) (hb : w.heap[g]? = some (.cells cur e fr)) :
    (sortWorldK encPt 2 w g 0 n d os).heap[g]? = some (.cells (putCells id 0 (flatK encPt 2 d) cur) e fr) := by
  have hg : g < w.heap.size := (Array.getElem?_eq_some_iff.1 hb).1
  unfold sortWorldK putRowK
  rw [heap_grow_old _ _ (by simpa using hg)]
  simp [putRow, mapBlock, Sort.ahead, Array.getElem?_modify, hb, onCells]
theorem grownBy_sortedK {w : World} {g n : Nat} {os : Array Obj} (d : Array Pt) : w.grownBy (sortWorldK encPt 2 w g 0 n d os) (some g) := by
  refine ⟨rfl, rfl, rfl, by simp [sortWorldK, putRowK], fun k hk hne => ?_⟩
  unfold sortWorldK putRowK
  rw [heap_grow_old _ _ (by simpa using hk)]
  have : g ≠ k := fun e => hne (by rw [e])
  simp [putRow, mapBlock, Sort.ahead, Array.getElem?_modify, this]
theorem take_putK (cur : Array Value) (L : List Pt) (h : L.length * 2 ≤ cur.size) : (putCells id 0 (flatK encPt 2 L.toArray) cur).toList.take (L.length * 2) = ptCells L := by
  rw [← flat_pt]
  apply List.ext_getElem?
  intro j
  by_cases hj : j < L.length * 2
  · have hs : j < (flatK encPt 2 L.toArray).size := by rw [size_flatK]; simpa using hj
    rw [List.getElem?_take_of_lt hj, Array.getElem?_toList, Array.getElem?_toList]
    simp only [putCells, Array.getElem?_mapIdx, Nat.zero_le, Nat.zero_add, true_and, Nat.sub_zero]
    rw [Array.getElem?_eq_getElem (show j < cur.size by omega)]
    simp only [Option.map_some, id]
    rw [if_pos hs, getElem!_pos _ j hs, Array.getElem?_eq_getElem hs]
  · rw [List.getElem?_take_eq_none (by omega), Array.getElem?_toList, Array.getElem?_eq_none (by rw [size_flatK]; simpa using hj)]
set_option maxHeartbeats 1000000 in
theorem SortFuncPt_any (L : List Pt) (B g cap : Nat) (w : World) (hrow : w.ownsRow B 34 2 (.slice (some ⟨g, 0, none⟩) L.length cap) L.length (ptCells L)) (hl : L.length ≤ 1000000) :
    Calls Try.prog 70 #[.slice (some ⟨g, 0, none⟩) L.length cap, .func (.func 71) #[] #[]] w fun e w' => e = .returned (.tuple #[]) ∧
      w'.ownsRow B 34 2 (.slice (some ⟨g, 0, none⟩) L.length cap) L.length (ptCells (sortP L)) ∧ w.grownBy w' (some g) := by
  rcases hrow with ⟨hcl, h0 | ⟨g', cap', cur, hv, hB, hb, h1, h2, h3, h4⟩⟩
  · cases h0.1
  cases hv
  have eg : ∀ args w, (callFunc 71 args).run Try.prog w = .ok (.enter 71 args) w := enters_of Try.func71 (by kernel_rfl) rfl
  have hH := holds_row hb h4
  have hgl := (Array.getElem?_eq_some_iff.1 hb).1
  have hcon := AnyQ.slices_SortFunc_total Try.sortPt 2 Try.isAgg34 Try.sizeOf34 encPt (fun _ => rfl) (fun x v hv => by simp [encPt] at hv; rcases hv with rfl | rfl <;> rfl) cmpP swo_cmpP 71 #[] g 0 cap L.toArray w eg
    (fun _ _ _ _ x y => comparePoints_exact x y _) hH hgl (by simp; omega) part_cmpP
  refine hcon.mono ?_
  rintro e w' ⟨he, n, os, rfl⟩
  refine ⟨he, ?_, grownBy_sortedK _⟩
  have hsl := sortP_len L
  refine ⟨by rw [ptCells_len, hsl], .inr ⟨g, cap, _, rfl, hB, heap_sortedK _ hb, h1, h2, by simp [putCells, h3], ?_⟩⟩
  have := take_putK cur (sortP L) (by rw [hsl, h3]; exact Nat.mul_le_mul_right 2 h1)
  rw [hsl] at this
  exact this
end Go.Proofs.Ytpnahobgmemdjaa
/- Rows of rows that a call has made: no two of them lie in one block. -/

namespace Go.Proofs.Ytpnahobgmemdjaa
open Go.RowKit
/-- v owns a row of the slices us; each of these owns a row of cells; no two lie in one block -/
structure Own2 (w : World) (base : Nat) (T E : TypeId) (size : Nat) (v : Value) (us : List Value) (rows : List (List Value)) : Prop where
  outer : w.ownsRow base T 1 v us.length us
  len : us.length = rows.length
  inner : ∀ (k : Nat) (u : Value) (r : List Value), us[k]? = some u → rows[k]? = some r → ∃ n, w.ownsRow base E size u n r
  apart : ∀ (j k : Nat) (u u' : Value) (g : Nat), us[j]? = some u → us[k]? = some u' → u.ownBlock = some g → u'.ownBlock = some g → j = k
  off : ∀ (k : Nat) (u : Value) (g : Nat), us[k]? = some u → u.ownBlock = some g → v.ownBlock ≠ some g
section
variable {w w' : World} {base : Nat} {T E : TypeId} {size : Nat} {v : Value} {us : List Value} {rows : List (List Value)}
theorem Own2.nil (w : World) (base : Nat) (T E : TypeId) (size : Nat) : Own2 w base T E size (.slice none 0 0) [] [] :=
  ⟨World.ownsRow_nil _ _ _ _, rfl, fun k u r h => by simp at h, fun j k u u' g h => by simp at h, fun k u g h => by simp at h⟩
/-- an empty row that was made -/
theorem Own2.made {n : Nat} {cs : Array Value} (hb : base ≤ w.heap.size) (hs : cs.size = 0) (h : (w.alloc (.cells cs T)).ownsRow base T 1 v 0 []) : Own2 (w.alloc (.cells cs T)) base T E size v [] [] :=
  ⟨h, rfl, fun k u r h => by simp at h, fun j k u u' g h => by simp at h, fun k u g h => by simp at h⟩
theorem Own2.of_empty (h : w.ownsRow base T 1 v 0 []) : Own2 w base T E size v [] [] :=
  ⟨h, rfl, fun k u r h => by simp at h, fun j k u u' g h => by simp at h, fun k u g h => by simp at h⟩
theorem Own2.get (h : Own2 w base T E size v us rows) {k : Nat} {u : Value} (hu : us[k]? = some u) : ∃ n r, rows[k]? = some r ∧ w.ownsRow base E size u n r := by
  have hk := (List.getElem?_eq_some_iff.1 hu).1
  have hr := List.getElem?_eq_getElem (l := rows) (i := k) (by rw [← h.len]; exact hk)
  obtain ⟨n, hn⟩ := h.inner k u _ hu hr
  exact ⟨n, _, hr, hn⟩
theorem Own2.outerN {N : Nat} (h : Own2 w base T E size v us rows) (hN : us.length = N) : w.ownsRow base T 1 v N us := hN ▸ h.outer
theorem Own2.lt (h : Own2 w base T E size v us rows) : ∀ g, v.ownBlock = some g → base ≤ g ∧ g < w.heap.size := h.outer.lt
theorem Own2.ltIn (h : Own2 w base T E size v us rows) {k : Nat} {u : Value} (hu : us[k]? = some u) : ∀ g, u.ownBlock = some g → base ≤ g ∧ g < w.heap.size := by
  obtain ⟨n, r, _, hr⟩ := h.get hu
  exact hr.lt
/-- whatever turns another block -/
theorem Own2.kept {row : Option Nat} (h : Own2 w base T E size v us rows) (hg : w.grownBy w' row) (h1 : ∀ g, row = some g → v.ownBlock ≠ some g ∧ ∀ (k : Nat) (u : Value), us[k]? = some u → u.ownBlock ≠ some g) : Own2 w' base T E size v us rows := by
  have ho : ∀ x : Value, (∀ g, row = some g → x.ownBlock ≠ some g) → x.ownBlock = none ∨ x.ownBlock ≠ row := fun x hx => by
    cases hb : x.ownBlock with
    | none => exact .inl rfl
    | some g => exact .inr fun e => hx g e.symm hb
  refine ⟨h.outer.kept hg (ho v fun g e => (h1 g e).1), h.len, fun k u r hu hr => ?_, h.apart, h.off⟩
  obtain ⟨n, hn⟩ := h.inner k u r hu hr
  exact ⟨n, hn.kept hg (ho u fun g e => (h1 g e).2 k u hu)⟩
theorem Own2.below (h : Own2 w base T E size v us rows) (hb : Below w.heap.size w w') : Own2 w' base T E size v us rows :=
  h.kept (grown_below hb none) (fun g e => by cases e)
theorem Own2.alloc (h : Own2 w base T E size v us rows) (o : Obj) : Own2 (w.alloc o) base T E size v us rows :=
  h.kept (World.grownBy_alloc w o none) (fun g e => by cases e)
theorem Own2.rebase (h : Own2 w base T E size v us rows) {base' : Nat} (hb : base' ≤ base) : Own2 w base' T E size v us rows := by
  have hd : ∀ {e s x n xs}, w.ownsRow base e s x n xs → w.ownsRow base' e s x n xs := fun h => ⟨h.1, h.2.imp id (fun ⟨g, cap, cur, h1, h2, h3⟩ => ⟨g, cap, cur, h1, Nat.le_trans hb h2, h3⟩)⟩
  exact ⟨hd h.outer, h.len, fun k u r hu hr => (h.inner k u r hu hr).imp fun n hn => hd hn, h.apart, h.off⟩
/-- a store below its base -/
theorem Own2.setBelow (h : Own2 w base T E size v us rows) {p : Addr} (hp : p.block < base) (x : Value) : Own2 (w.setCell p x) base T E size v us rows := by
  refine h.kept (row := some p.block) ⟨rfl, rfl, rfl, by simp, fun k hk hne => Below.heap_setCell _ _ _ _ (fun e => hne (by rw [e]))⟩ (fun g e => ?_)
  injection e with e
  subst e
  refine ⟨fun e => ?_, fun k u hu e => ?_⟩
  · have := (h.lt _ e).1; omega
  · have := (h.ltIn hu _ e).1; omega
/-- one more row: the slice x, which owns the row r -/
theorem Own2.push {w1 : World} {v' x : Value} {N n : Nat} {r : List Value} (h : Own2 w1 base T E size v us rows) (hN : us.length = N) (hx : w1.ownsRow base E size x n r)
    (hd : ∀ g, x.ownBlock = some g → v.ownBlock ≠ some g ∧ ∀ (k : Nat) (u : Value), us[k]? = some u → u.ownBlock ≠ some g)
    (hown : w'.ownsRow base T 1 v' (N + 1) (us ++ [x])) (hg : w1.grownBy w' v.ownBlock) (hat : v'.ownBlock = v.ownBlock ∨ v'.ownBlock = some w1.heap.size) : Own2 w' base T E size v' (us ++ [x]) (rows ++ [r]) := by
  subst hN
  have hk : ∀ {u : Value} {n : Nat} {r : List Value}, w1.ownsRow base E size u n r → (∀ g, u.ownBlock = some g → v.ownBlock ≠ some g) → w'.ownsRow base E size u n r := fun {u n r} hu hne => by
    refine hu.kept hg ?_
    cases hb : u.ownBlock with
    | none => exact .inl rfl
    | some g => exact .inr fun e => hne g hb e.symm
  have hcase : ∀ {k : Nat} {u : Value}, (us ++ [x])[k]? = some u → (k < us.length ∧ us[k]? = some u) ∨ (k = us.length ∧ u = x) := fun {k u} hu => by
    rcases Nat.lt_or_ge k us.length with hlt | hge
    · rw [List.getElem?_append_left hlt] at hu
      exact .inl ⟨hlt, hu⟩
    · have hlt := (List.getElem?_eq_some_iff.1 hu).1
      simp at hlt
      obtain rfl : k = us.length := by omega
      simp at hu
      exact .inr ⟨rfl, hu.symm⟩
  refine ⟨by simpa using hown, by simp [h.len], fun k u q hu hq => ?_, fun j k u u' g hu0 hu' hb hb' => ?_, fun k u g hu hb e => ?_⟩
  · rcases hcase hu with ⟨hlt, hu⟩ | ⟨rfl, rfl⟩
    · rw [List.getElem?_append_left (by rw [← h.len]; exact hlt)] at hq
      obtain ⟨m, hm⟩ := h.inner k u q hu hq
      exact ⟨m, hk hm fun g hg => h.off k u g hu hg⟩
    · rw [h.len] at hq
      simp at hq
      subst hq
      exact ⟨n, hk hx fun g hg => (hd g hg).1⟩
  · rcases hcase hu0 with ⟨hlt, hu⟩ | ⟨rfl, rfl⟩
    · clear hu0
      rcases hcase hu' with ⟨hlt', hu'⟩ | ⟨rfl, rfl⟩
      · exact h.apart j k u u' g hu hu' hb hb'
      · exact ((hd g hb').2 j u hu hb).elim
    · rcases hcase hu' with ⟨hlt', hu'⟩ | ⟨rfl, rfl⟩
      · exact ((hd g hb).2 k u' hu' hb').elim
      · rfl
  · rcases hcase hu with ⟨hlt, hu⟩ | ⟨rfl, rfl⟩
    · rcases hat with hat | hat
      · exact h.off k u g hu hb (hat ▸ e)
      · have := (h.ltIn hu g hb).2
        rw [hat] at e
        injection e with e
        omega
    · rcases hat with hat | hat
      · exact (hd g hb).1 (hat ▸ e)
      · have := (hx.lt g hb).2
        rw [hat] at e
        injection e with e
        omega
/-- row k grows: the slice u was appended to (in w1) and is stored back (into block g) -/
theorem Own2.grow {w1 : World} {N k g cap n' : Nat} {u u' : Value} {r' : List Value} (h : Own2 w1 base T E size (.slice (some ⟨g, 0, none⟩) N cap) us rows) (hN : us.length = N) (hu : us[k]? = some u)
    (hown : w'.ownsRow base E size u' n' r') (hg : w1.grownBy w' u.ownBlock) (hat : u'.ownBlock = u.ownBlock ∨ u'.ownBlock = some w1.heap.size) :
    Own2 (w'.setCell ⟨g, k, none⟩ u') base T E size (.slice (some ⟨g, 0, none⟩) N cap) (us.set k u') (rows.set k r') := by
  subst hN
  have hgl := (h.lt g rfl)
  have hug : u.ownBlock ≠ some g := fun e => h.off k u g hu e rfl
  have hu'g : u'.ownBlock ≠ some g := fun e => by
    rcases hat with hat | hat
    · exact hug (hat ▸ e)
    · rw [hat] at e
      injection e with e
      omega
  have hgn : (w').grownBy (w'.setCell ⟨g, k, none⟩ u') (some g) := ⟨rfl, rfl, rfl, by simp, fun i hi hne => Below.heap_setCell _ _ _ _ (fun e => hne (by rw [e]))⟩
  have ho1 : w'.ownsRow base T 1 (.slice (some ⟨g, 0, none⟩) us.length cap) us.length us := h.outer.kept hg (.inr fun e => hug e.symm)
  have ho2 := (ho1.stored k u').1
  have hne2 : ∀ {x : Value}, x.ownBlock ≠ some g → x.ownBlock = none ∨ x.ownBlock ≠ some g := fun h => .inr h
  have hcase : ∀ {j : Nat} {x : Value}, (us.set k u')[j]? = some x → (j ≠ k ∧ us[j]? = some x) ∨ (j = k ∧ x = u') := fun {j x} hx => by
    by_cases e : j = k
    · subst e
      rw [List.getElem?_set_self (List.getElem?_eq_some_iff.1 hu).1] at hx
      exact .inr ⟨rfl, (Option.some.inj hx).symm⟩
    · rw [List.getElem?_set_ne (fun e' => e e'.symm)] at hx
      exact .inl ⟨e, hx⟩
  have hnb : ∀ {j : Nat} {x : Value} {b : Nat}, us[j]? = some x → j ≠ k → x.ownBlock = some b → u'.ownBlock ≠ some b := fun {j x b} hx hj hb e => by
    rcases hat with hat | hat
    · exact hj (h.apart j k x u b hx hu hb (hat ▸ e))
    · have := (h.ltIn hx b hb).2
      rw [hat] at e
      injection e with e
      omega
  refine ⟨by simpa using ho2, by simp [h.len], fun j x q hx hq => ?_, fun i j x y b hx0 hy0 hb hb' => ?_, fun j x b hx hb e => ?_⟩
  · rcases hcase hx with ⟨hj, hx⟩ | ⟨rfl, rfl⟩
    · rw [List.getElem?_set_ne (fun e' => hj e'.symm)] at hq
      obtain ⟨p, hp⟩ := h.inner j x q hx hq
      refine ⟨p, (hp.kept hg ?_).kept hgn (hne2 fun e => h.off j x g hx e rfl)⟩
      cases hb : x.ownBlock with
      | none => exact .inl rfl
      | some b => exact .inr fun e => hj (h.apart j k x u b hx hu hb e.symm)
    · rw [List.getElem?_set_self (by rw [← h.len]; exact (List.getElem?_eq_some_iff.1 hu).1)] at hq
      obtain rfl := Option.some.inj hq
      exact ⟨n', hown.kept hgn (hne2 hu'g)⟩
  · rcases hcase hx0 with ⟨hi, hx⟩ | ⟨rfl, rfl⟩
    · clear hx0
      rcases hcase hy0 with ⟨hj, hy⟩ | ⟨rfl, rfl⟩
      · exact h.apart i j x y b hx hy hb hb'
      · exact (hnb hx hi hb hb').elim
    · clear hx0
      rcases hcase hy0 with ⟨hj, hy⟩ | ⟨rfl, rfl⟩
      · exact (hnb hy hj hb' hb).elim
      · rfl
  · rcases hcase hx with ⟨hj, hx⟩ | ⟨rfl, rfl⟩
    · exact h.off j x b hx hb e
    · injection e with e
      subst e
      exact hu'g hb
theorem Own2.form {N : Nat} (h : Own2 w base T E size v us rows) (hN : us.length = N) : ∃ A cap, v = .slice A N cap := by
  subst hN
  rcases h.outer.2 with ⟨rfl, h0⟩ | ⟨g, cap, cur, rfl, _⟩
  · exact ⟨none, 0, by rw [h0]⟩
  · exact ⟨_, cap, rfl⟩
theorem Own2.formPos {N : Nat} (h : Own2 w base T E size v us rows) (hN : us.length = N) (hp : 0 < N) : ∃ g cap, v = .slice (some ⟨g, 0, none⟩) N cap := by
  subst hN
  rcases h.outer.2 with ⟨rfl, h0⟩ | ⟨g, cap, cur, rfl, _⟩
  · omega
  · exact ⟨_, cap, rfl⟩
theorem Own2.keptBelow {row : Option Nat} (h : Own2 w base T E size v us rows) (hg : w.grownBy w' row) (hr : ∀ g, row = some g → g < base) : Own2 w' base T E size v us rows :=
  h.kept hg fun g e => ⟨fun e' => by have := (h.lt g e').1; have := hr g e; omega, fun k u hu e' => by have := (h.ltIn hu g e').1; have := hr g e; omega⟩
/-- the outer row behind an append to row k -/
theorem Own2.after {N g cap k : Nat} {u : Value} (h : Own2 w base T E size (.slice (some ⟨g, 0, none⟩) N cap) us rows) (hN : us.length = N) (hu : us[k]? = some u) (hg : w.grownBy w' u.ownBlock) : w'.cell? ⟨g, k, none⟩ = some u ∧ w'.frozen? ⟨g, k, none⟩ = false ∧ g < w'.heap.size ∧ base ≤ g := by
  subst hN
  have hne : u.ownBlock ≠ some g := fun e => h.off k u g hu e rfl
  have ho : w'.ownsRow base T 1 (.slice (some ⟨g, 0, none⟩) us.length cap) us.length us := h.outer.kept hg (.inr fun e => hne e.symm)
  have hl := ho.lt g rfl
  exact ⟨(ho.cellAt k (by have := (List.getElem?_eq_some_iff.1 hu).1; omega)).trans hu, ho.frozenAt k, hl.2, hl.1⟩
theorem Own2.cellAt {N g cap k : Nat} {u : Value} (h : Own2 w base T E size (.slice (some ⟨g, 0, none⟩) N cap) us rows) (hN : us.length = N) (hu : us[k]? = some u) : w.cell? ⟨g, k, none⟩ = some u ∧ w.frozen? ⟨g, k, none⟩ = false ∧ g < w.heap.size := by
  subst hN
  exact ⟨(h.outer.cellAt k (by have := (List.getElem?_eq_some_iff.1 hu).1; omega)).trans hu, h.outer.frozenAt k, (h.outer.lt g rfl).2⟩
theorem ownsRow_form {w : World} {base : Nat} {e : TypeId} {size : Nat} {v : Value} {n : Nat} {xs : List Value} (h : w.ownsRow base e size v n xs) : ∃ A cap, v = .slice A n cap := by
  rcases h.2 with ⟨rfl, rfl⟩ | ⟨g, cap, cur, rfl, _⟩
  · exact ⟨none, 0, rfl⟩
  · exact ⟨_, cap, rfl⟩
theorem below_app {B0 : Nat} {W w2 : World} {o : Obj} {row : Option Nat} (hB : B0 ≤ W.heap.size) (hu : ∀ g, row = some g → B0 ≤ g) (hg : (W.alloc o).grownBy w2 row) : Below B0 W w2 :=
  ((Below.refl B0 W).alloc hB o).grown hg (by simp; omega) hu
end
end Go.Proofs.Ytpnahobgmemdjaa
