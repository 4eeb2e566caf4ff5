import Derived.Test.YtdcndhiidjgmaaaGreatDoorW70
import Derived.Test.YtdcndhiidjgmaaaGreatDoorPts
import Derived.Test.YtdcndhiidjgmaaaGreatDoorKC
import Derived.Test.YtdcndhiidjgmaaaGreatDoorW12
import Derived.Test.YtdcndhiidjgmaaaGreatDoorKB
import Derived.ArgAppend
import Derived.Maps.RangeWalk
set_option linter.unusedSimpArgs false
set_option linter.unusedVariables false
/- Points by their places in a shape; maps from points to bools that a call makes. -/




namespace Go.Proofs.YtdcndhiidjgmaaaGreatDoor
open Go.RowKit Go.Shelf
open Go.Maps (Keyed)
set_option maxRecDepth 100000
/-- points in ascending order, all valid -/
structure Shp (ps : List Pt) : Prop where
  pt : ∀ (k : Nat) (e : Pt), ps[k]? = some e → (-60 ≤ e.x ∧ e.x ≤ 60) ∧ (-60 ≤ e.y ∧ e.y ≤ 60)
  sorted : ∀ (i j : Nat) (d e : Pt), i < j → ps[i]? = some d → ps[j]? = some e → lessPt d.x d.y e.x e.y = true
theorem lessPt_irrefl (x y : Int) : lessPt x y x y = false := by simp [lessPt, cmpPt, orI, cmpI]
theorem Shp.inj {ps : List Pt} (h : Shp ps) {i j : Nat} {e : Pt} (hi : ps[i]? = some e) (hj : ps[j]? = some e) : i = j := by
  rcases Nat.lt_trichotomy i j with hlt | heq | hlt
  · have := h.sorted i j e e hlt hi hj
    rw [lessPt_irrefl] at this
    cases this
  · exact heq
  · have := h.sorted j i e e hlt hj hi
    rw [lessPt_irrefl] at this
    cases this
/-- the place of a point -/
def idxP (ps : List Pt) (x y : Int) : Option Nat := ps.findIdx? fun e => e.x == x && e.y == y
theorem idxP_some {ps : List Pt} {x y : Int} {k : Nat} (h : idxP ps x y = some k) : ps[k]? = some ⟨x, y⟩ := by
  unfold idxP at h
  rw [List.findIdx?_eq_some_iff_getElem] at h
  obtain ⟨hk, hp, _⟩ := h
  simp only [Bool.and_eq_true, beq_iff_eq] at hp
  rw [List.getElem?_eq_getElem hk]
  have : ps[k] = ⟨x, y⟩ := by
    cases hh : ps[k] with
    | mk a b => rw [hh] at hp; simp only at hp; rw [hp.1, hp.2]
  rw [this]
theorem idxP_none {ps : List Pt} {x y : Int} (h : idxP ps x y = none) (k : Nat) : ps[k]? ≠ some ⟨x, y⟩ := by
  intro hk
  unfold idxP at h
  rw [List.findIdx?_eq_none_iff] at h
  have := h _ (List.mem_of_getElem? hk)
  simp at this
theorem Shp.idx {ps : List Pt} (h : Shp ps) {k : Nat} {e : Pt} (hk : ps[k]? = some e) : idxP ps e.x e.y = some k := by
  cases hi : idxP ps e.x e.y with
  | none => exact absurd hk (idxP_none hi k)
  | some j => rw [h.inj hk (idxP_some hi)]
/-- the neighbor of a point, by their places -/
def nbP (ps : List Pt) (u d : Nat) : Option Nat := match ps[u]? with
  | some e => idxP ps (stepX e.x d) (stepY e.y d)
  | none => none
theorem nbP_sym {ps : List Pt} (h : Shp ps) (u d v : Nat) (hu : u < ps.length) (hd : d < 4) (hv : nbP ps u d = some v) : v < ps.length ∧ ∃ e, e < 4 ∧ nbP ps v e = some u := by
  obtain ⟨e, he⟩ : ∃ e, ps[u]? = some e := ⟨_, List.getElem?_eq_getElem hu⟩
  unfold nbP at hv
  rw [he] at hv
  simp only at hv
  have hk := idxP_some hv
  refine ⟨(List.getElem?_eq_some_iff.1 hk).1, (d + 2) % 4, by omega, ?_⟩
  unfold nbP
  rw [hk]
  simp only
  have hb : stepX (stepX e.x d) (((d + 2) % 4 : Nat) : Int) = e.x ∧ stepY (stepY e.y d) (((d + 2) % 4 : Nat) : Int) = e.y := by
    have : d = 0 ∨ d = 1 ∨ d = 2 ∨ d = 3 := by omega
    rcases this with rfl | rfl | rfl | rfl <;> simp [stepX, stepY]
  rw [hb.1, hb.2]
  exact h.idx he
/-- the points that are not yet taken -/
def leftB (ps : List Pt) (nm : List Nat) (x y : Int) : Bool := match idxP ps x y with
  | some v => decide (nm[v]? = some 0)
  | none => false
theorem leftB_set {ps : List Pt} (h : Shp ps) {nm : List Nat} {v c : Nat} {e : Pt} (he : ps[v]? = some e) (hv : v < nm.length) (hc : c ≠ 0) (x y : Int) : leftB ps (nm.set v c) x y = (leftB ps nm x y && !decide (x = e.x ∧ y = e.y)) := by
  unfold leftB
  cases hi : idxP ps x y with
  | none => simp
  | some k =>
    have hk := idxP_some hi
    by_cases hkv : v = k
    · subst hkv
      rw [he] at hk
      injection hk with hk
      subst hk
      simp only [List.getElem?_set_self hv]
      simp [hc]
    · simp only [List.getElem?_set_ne hkv]
      have hne : ¬ (x = e.x ∧ y = e.y) := fun hh => by
        obtain ⟨rfl, rfl⟩ := hh
        exact hkv (h.inj he hk)
      simp [hne]
/-- block b maps points to bools: S; at most n were laid in -/
def LMap (w : World) (b n : Nat) (S : Int → Int → Bool) : Prop :=
  ∃ D : DataW Unit, w.ownsMap Tryz.prog 44 (plainElem Tryz.prog 4) b n D ∧ ∀ x y, W64 x → W64 y → D.atKey (pkey x y) (.lit (.bool false)) = .lit (.bool (S x y))
section
variable {w w' : World} {b n : Nat} {S S' : Int → Int → Bool}
theorem LMap.made (w : World) : LMap (w.alloc (.map #[] 0)) w.heap.size 0 (fun _ _ => false) :=
  ⟨_, World.ownsMap_made _ _ _ _, fun x y _ _ => WideAt.atKey_none _ (fun p hp => by simp at hp)⟩
theorem LMap.lt (h : LMap w b n S) : b < w.heap.size := by
  obtain ⟨D, h, _⟩ := h
  exact h.lt
theorem LMap.block (h : LMap w b n S) (hb : w'.heap[b]? = w.heap[b]?) : LMap w' b n S := by
  obtain ⟨D, ⟨es, clock, hh, r⟩, h2⟩ := h
  exact ⟨D, ⟨es, clock, hb.trans hh, r⟩, h2⟩
theorem LMap.below (h : LMap w b n S) (hb : Below w.heap.size w w') : LMap w' b n S := h.block (hb.block b h.lt)
theorem LMap.say (h : LMap w b n S) (hS : ∀ x y, S x y = S' x y) : LMap w b n S' := by
  obtain rfl : S = S' := funext fun x => funext fun y => hS x y
  exact h
end
section
variable {ops : Array Oper} {rest : List Oper} {o : Oper} {a : Act} {Q : Exit → Act → World → Prop}
theorem zero_bo (w : World) : (zeroValue 4).run Tryz.prog w = .ok (.bool false) w := by kernel_rfl
theorem wpList_look_lmap (w : World) (hg : o.guard = none) (m k : Operand) (hop : o.op = Op.lookup 111 m k false) (b n : Nat) (S : Int → Int → Bool) (hm : a.eval m = .map (some b)) (h : LMap w b n S) (x y : Int) (hx : W64 x) (hy : W64 y) (hk : a.eval k = .agg #[.int .i64 x, .int .i64 y])
    (hK : wpList Tryz.prog ops Q rest (a.put o.dst (.bool (S x y))) w) : wpList Tryz.prog ops Q (o :: rest) a w := by
  obtain ⟨D, hown, hat⟩ := h
  have hw : Region.wanted o (yielded ops a.tmps) = true := by simp [Region.wanted, hg]
  refine wpList_wanted hw fun K' hK' => ?_
  obtain ⟨v, ps, hrun, hv⟩ := hown.lookup pt_keyed Tryz.underlying111 (zero_bo w) (plainElem_bool Tryz.underlying4 false) (keyOf_pt hx hy)
  rw [hat x y hx hy] at hv
  obtain rfl := plainElem_bool_inv Tryz.underlying4 hv
  unfold Oper.wp
  simp [execOp, hop, hm, hk, hrun, Result.andThen]
  exact hK' _ _ hK
theorem wpList_put_lmap (w : World) (hg : o.guard = none) (m k u : Operand) (hop : o.op = Op.mapUpdate 111 m k u) (b n : Nat) (S : Int → Int → Bool) (hm : a.eval m = .map (some b)) (h : LMap w b n S) (x y : Int) (hx : W64 x) (hy : W64 y) (hn : n < maxLen) (hk : a.eval k = .agg #[.int .i64 x, .int .i64 y]) (hu : a.eval u = .bool true)
    (hK : ∀ w', LMap w' b (n + 1) (fun i j => S i j || decide (i = x ∧ j = y)) → w.grownBy w' (some b) → wpList Tryz.prog ops Q rest (a.put o.dst undef) w') : wpList Tryz.prog ops Q (o :: rest) a w := by
  obtain ⟨D, hown, hat⟩ := h
  refine wpList_mapUpdate_own w hg m k u 111 hop _ _ pt_keyed Tryz.underlying111 _ b n D hm hown hn _ _ _ hk hu (keyOf_pt hx hy) _ [] (plainElem_bool Tryz.underlying4 true) ?_
  intro w' h1 h2
  refine hK w' ⟨_, h1, fun i j hi hj => ?_⟩ h2
  by_cases hij : i = x ∧ j = y
  · obtain ⟨rfl, rfl⟩ := hij
    rw [Maps.atKey_put_same hown.isMap (pt_keyed.key (keyOf_pt hi hj))]
    simp
  · rw [Maps.atKey_put_other (fun e => hij (pkey_inj hi hj hx hy e)), hat i j hi hj]
    simp [hij]
theorem wpList_del_lmap (w : World) (hg : o.guard = none) (m k : Operand) (hop : o.op = Op.call { callee := Callee.builtin Builtin.delete, args := #[m, k], argTypes := #[111, 44] }) (b n : Nat) (S : Int → Int → Bool) (hm : a.eval m = .map (some b)) (h : LMap w b n S) (x y : Int) (hx : W64 x) (hy : W64 y) (hk : a.eval k = .agg #[.int .i64 x, .int .i64 y])
    (hK : ∀ w', LMap w' b n (fun i j => S i j && !decide (i = x ∧ j = y)) → w.grownBy w' (some b) → wpList Tryz.prog ops Q rest (a.put o.dst (.tuple #[])) w') : wpList Tryz.prog ops Q (o :: rest) a w := by
  obtain ⟨D, hown, hat⟩ := h
  refine wpList_delete_own w hg m k 111 44 hop 4 pt_keyed Tryz.underlying111 _ b n D hm hown _ _ hk (keyOf_pt hx hy) ?_
  intro w' h1 h2
  refine hK w' ⟨_, h1, fun i j hi hj => ?_⟩ h2.grown
  by_cases hij : i = x ∧ j = y
  · obtain ⟨rfl, rfl⟩ := hij
    rw [Maps.atKey_del_same]
    simp
  · rw [Maps.atKey_del_other (fun e => hij (pkey_inj hi hj hx hy e)), hat i j hi hj]
    simp [hij]
end
end Go.Proofs.YtdcndhiidjgmaaaGreatDoor
/- Rows that are read from the front and appended at the end; maps from points to pointers that a call makes. -/




namespace Go.Proofs.YtdcndhiidjgmaaaGreatDoor
open Go.RowKit Go.Shelf
open Go.Maps (Keyed)
set_option maxRecDepth 100000
/-- a row of a block of the call's own that begins at some place of it -/
def QRow (w : World) (base size : Nat) (v : Value) (n : Nat) (xs : List Value) : Prop :=
  xs.length = n * size ∧ ∃ g off cap, v = .slice (some ⟨g, off, none⟩) n cap ∧ base ≤ g ∧ g < w.heap.size ∧ n ≤ cap ∧ cap ≤ maxLen ∧
    (∀ j, j < cap * size → (w.cell? ⟨g, off + j, none⟩).isSome = true ∧ w.frozen? ⟨g, off + j, none⟩ = false) ∧ ∀ j u, xs[j]? = some u → w.cell? ⟨g, off + j, none⟩ = some u
section
variable {w w' : World} {base size n : Nat} {v : Value} {xs : List Value}
theorem QRow.of_own {e : TypeId} (h : w.ownsRow base e size v n xs) (hn : 0 < n) : QRow w base size v n xs := by
  refine ⟨h.1, ?_⟩
  rcases h.2 with ⟨_, h0⟩ | ⟨g, cap, cur, rfl, hb, hg, hnc, hcm, hcs, htake⟩
  · omega
  · have hf : ∀ j, w.frozen? ⟨g, j, none⟩ = false := fun j => by simp [World.frozen?, hg]
    refine ⟨g, 0, cap, rfl, hb, (Array.getElem?_eq_some_iff.1 hg).1, hnc, hcm, fun j hj => ⟨?_, hf _⟩, fun j u hu => ?_⟩
    · rw [Nat.zero_add, cell_of_row w g j cur e (0, 0) hg, Array.getElem?_eq_getElem (by rw [hcs]; exact hj)]; rfl
    · rw [Nat.zero_add, cell_of_row w g j cur e (0, 0) hg]
      rw [← htake, List.getElem?_take] at hu
      split at hu
      · simpa using hu
      · cases hu
theorem QRow.form (h : QRow w base size v n xs) : ∃ g off cap, v = .slice (some ⟨g, off, none⟩) n cap ∧ base ≤ g ∧ g < w.heap.size ∧ n ≤ cap := by
  obtain ⟨_, g, off, cap, h1, h2, h3, h4, _⟩ := h
  exact ⟨g, off, cap, h1, h2, h3, h4⟩
theorem QRow.lt (h : QRow w base size v n xs) : ∀ g, v.ownBlock = some g → base ≤ g ∧ g < w.heap.size := by
  obtain ⟨g, off, cap, rfl, h2, h3, _⟩ := h.form
  intro k hk
  simp [Value.ownBlock] at hk
  subst hk
  exact ⟨h2, h3⟩
theorem QRow.kept {row : Option Nat} (h : QRow w base size v n xs) (hg : w.grownBy w' row) (hne : v.ownBlock ≠ row) : QRow w' base size v n xs := by
  obtain ⟨h0, g, off, cap, rfl, h2, h3, h4, h5, h6, h7⟩ := h
  have hb := hg.block g h3 (by simpa [Value.ownBlock] using hne)
  refine ⟨h0, g, off, cap, rfl, h2, Nat.lt_of_lt_of_le h3 hg.size, h4, h5, fun j hj => ?_, fun j u hu => ?_⟩
  · rw [World.cell?_of_block (a := ⟨g, off + j, none⟩) hb, World.frozen?_of_block (a := ⟨g, off + j, none⟩) hb]
    exact h6 j hj
  · rw [World.cell?_of_block (a := ⟨g, off + j, none⟩) hb]
    exact h7 j u hu
theorem QRow.below (h : QRow w base size v n xs) (hb : Below w.heap.size w w') : QRow w' base size v n xs := by
  refine h.kept (grown_below hb none) ?_
  obtain ⟨g, off, cap, rfl, _⟩ := h.form
  simp [Value.ownBlock]
/-- the first -/
theorem QRow.head {g off cap : Nat} {x : Value} (h : QRow w base 1 (.slice (some ⟨g, off, none⟩) n cap) n (x :: xs)) : w.cell? ⟨g, off, none⟩ = some x := by
  obtain ⟨h0, g', off', cap', hv, h2, h3, h4, h5, h6, h7⟩ := h
  cases hv
  exact h7 0 x rfl
/-- all but the first -/
theorem QRow.pop {g off cap : Nat} {x : Value} (h : QRow w base 1 (.slice (some ⟨g, off, none⟩) (n + 1) cap) (n + 1) (x :: xs)) : QRow w base 1 (.slice (if cap = 1 then some ⟨g, off, none⟩ else some ⟨g, off + 1, none⟩) n (cap - 1)) n xs := by
  obtain ⟨h0, g', off', cap', hv, h2, h3, h4, h5, h6, h7⟩ := h
  cases hv
  simp only [List.length_cons, Nat.mul_one] at h0
  by_cases hc : cap = 1
  · subst hc
    obtain rfl : n = 0 := by omega
    obtain rfl : xs = [] := List.eq_nil_of_length_eq_zero (by omega)
    simp only [if_true]
    exact ⟨rfl, g, off, 0, rfl, h2, h3, Nat.le_refl _, Nat.zero_le _, fun j hj => by omega, fun j u hu => by simp at hu⟩
  · simp only [if_neg hc]
    refine ⟨by omega, g, off + 1, cap - 1, rfl, h2, h3, by omega, by omega, fun j hj => ?_, fun j u hu => ?_⟩
    · rw [Nat.add_assoc]; exact h6 (1 + j) (by omega)
    · rw [Nat.add_assoc, Nat.add_comm 1 j]; exact h7 (j + 1) u (by simpa using hu)
theorem gby_setCells (b : Nat) : ∀ (vs : List Value) (o : Nat) (w : World), w.grownBy (w.setCells b o vs) (some b)
  | [], o, w => ⟨rfl, rfl, rfl, Nat.le_refl _, fun _ _ _ => rfl⟩
  | v :: r, o, w => by
    have ih := gby_setCells b r (o + 1) (w.setCell ⟨b, o, none⟩ v)
    refine ⟨ih.os, ih.tape, ih.output, ?_, fun k hk hne => ?_⟩
    · have := ih.size
      rw [World.size_setCell] at this
      exact this
    rw [show w.setCells b o (v :: r) = (w.setCell ⟨b, o, none⟩ v).setCells b (o + 1) r from rfl, ih.block k (by simpa using hk) hne]
    exact Below.heap_setCell _ _ _ _ (fun e => hne (by rw [e]))
end
section
variable {P : Program} {w : World}
theorem run_append_q (base : Nat) (t ty e : TypeId) (i : TypeInfo) (z : Value) (size bytes : Nat) (ht : P.underlying t = some (.slice e)) (hi : P.info? e = some i) (hz : i.zero = some z)
    (hsize : i.size = size) (hby : i.bytes = bytes) (hzs : z.cells.size = size) (hsz : 0 < size) (v : Value) (n : Nat) (xs : List Value) (hq : QRow w base size v n xs)
    (a : Addr) (m c : Nat) (news : List Value) (hl : news.length = m * size) (hnews : ∀ j u, news[j]? = some u → w.cell? (a.add j) = some u) (h1 : ∀ u ∈ news, u.oneCell' = true) (hm : 0 < m)
    (h63 : n + m ≤ maxLen) (hbytes : (n + m) * bytes ≤ 140737488355328) (hbase : base ≤ w.heap.size) :
    ∃ v' w', (Builtin.append_ #[t, t] ty #[v, .slice (some a) m c]).run P w = .ok v' w' ∧ QRow w' base size v' (n + m) (xs ++ news) ∧ w.grownBy w' v.ownBlock ∧ (v'.ownBlock = v.ownBlock ∨ v'.ownBlock = some w.heap.size) := by
  obtain ⟨h0, g, off, cap, rfl, h2, h3, h4, h5, h6, h7⟩ := hq
  by_cases hr : n + m ≤ cap
  · subst hsize
    have hfit : n * i.size + news.length ≤ cap * i.size := by rw [hl, ← Nat.add_mul]; exact Nat.mul_le_mul_right _ hr
    have hc : ∀ j, j < news.length → (w.cell? ⟨g, off + n * i.size + j, none⟩).isSome = true ∧ w.frozen? ⟨g, off + n * i.size + j, none⟩ = false := fun j hj => by
      rw [Nat.add_assoc]; exact h6 (n * i.size + j) (by omega)
    have hrun := run_append_room_cells (P := P) w t ty e i ht hi g off n cap a m c news hl hnews h1 hr (fun j hj => (hc j hj).1) (fun j hj => (hc j hj).2)
    have hg := gby_setCells g news (off + n * i.size) w
    refine ⟨_, _, hrun, ⟨by rw [List.length_append, h0, hl, Nat.add_mul], g, off, cap, rfl, h2, Nat.lt_of_lt_of_le h3 hg.size, hr, h5, fun j hj => ⟨?_, ?_⟩, fun j u hu => ?_⟩, hg, .inl rfl⟩
    · by_cases hjn : n * i.size ≤ j ∧ j < n * i.size + news.length
      · have := World.cell?_setCells_in g news (off + n * i.size) w (fun j hj => (hc j hj).1) (j - n * i.size) (by omega)
        rw [show off + n * i.size + (j - n * i.size) = off + j by omega] at this
        rw [this]; rfl
      · rw [World.cell?_setCells_out g news (off + n * i.size) w ⟨g, off + j, none⟩ (fun _ _ => by show off + j < _ ∨ _ ≤ off + j; omega)]
        exact (h6 j hj).1
    · rw [World.frozen?_setCells]; exact (h6 j hj).2
    · by_cases hjx : j < xs.length
      · rw [List.getElem?_append_left hjx] at hu
        rw [World.cell?_setCells_out g news (off + n * i.size) w ⟨g, off + j, none⟩ (fun _ _ => .inl (by show off + j < _; omega))]
        exact h7 j u hu
      · rw [List.getElem?_append_right (by omega)] at hu
        have hjl : j - xs.length < news.length := (List.getElem?_eq_some_iff.1 hu).1
        have := World.cell?_setCells_in g news (off + n * i.size) w (fun j hj => (hc j hj).1) (j - xs.length) hjl
        rw [show off + n * i.size + (j - xs.length) = off + j by omega] at this
        rw [this, ← hu, List.getElem?_eq_getElem hjl]
  · obtain ⟨v', w', hrun, r1, r2⟩ := run_append_arg_grows (P := P) w t ty e i z size bytes ht hi hz hsize hby hzs hsz ⟨g, off, none⟩ n cap xs h0 (fun j u hu => by rw [Addr.add_lit]; exact h7 j u hu) a m c news hl hnews (by omega) h63 hbytes
    have hq := QRow.of_own r1 (by omega)
    refine ⟨v', w', hrun, ?_, r2.but _, .inr ?_⟩
    · obtain ⟨q0, g', off', cap', q1, q2, q3⟩ := hq
      exact ⟨q0, g', off', cap', q1, Nat.le_trans hbase q2, q3⟩
    · obtain ⟨b1, _⟩ := hq.form
      have hk : ∃ k, v'.ownBlock = some k := by
        obtain ⟨g', off', cap', e1, _⟩ := hq.form
        exact ⟨g', by rw [e1]; rfl⟩
      obtain ⟨k, hk⟩ := hk
      have := hq.lt k hk
      have hnew : k < w.heap.size + 1 := by
        have hs := r1.lt k hk
        have : w'.heap.size = w.heap.size + 1 := by
          have hr' := run_append_grow (P := P) w t ty e i z ht hi hz ⟨g, off, none⟩ n cap xs (by rw [hsize]; exact h0) (fun j u hu => by rw [Addr.add_lit]; exact h7 j u hu) a m c news (by rw [hsize]; exact hl) hnews (by omega) (by simp only [maxLen] at h63; omega) (growslice_fits (by omega) (by rw [hby]; exact hbytes))
          rw [hrun] at hr'
          injection hr' with _ hw
          rw [hw]; simp
        omega
      have : k = w.heap.size := by omega
      rw [hk, this]
theorem wpList_append_q {ops : Array Oper} {rest : List Oper} {o : Oper} {a : Act} {Q : Exit → Act → World → Prop} (hgd : o.guard = none) (s x : Operand) (t : TypeId)
    (ho : o.op = .call { callee := .builtin .append, args := #[s, x], argTypes := #[t, t] })
    (base : Nat) (e : TypeId) (i : TypeInfo) (z : Value) (size bytes : Nat) (ht : P.underlying t = some (.slice e)) (hi : P.info? e = some i) (hz : i.zero = some z)
    (hsize : i.size = size) (hby : i.bytes = bytes) (hzs : z.cells.size = size) (hsz : 0 < size)
    (v : Value) (n : Nat) (xs : List Value) (hs : a.eval s = v) (hq : QRow w base size v n xs)
    (ad : Addr) (m c : Nat) (news : List Value) (hx : a.eval x = .slice (some ad) m c) (hl : news.length = m * size) (hnews : ∀ j u, news[j]? = some u → w.cell? (ad.add j) = some u) (h1 : ∀ u ∈ news, u.oneCell' = true) (hm : 0 < m)
    (h63 : n + m ≤ maxLen) (hbytes : (n + m) * bytes ≤ 140737488355328) (hbase : base ≤ w.heap.size)
    (h : ∀ v' w', QRow w' base size v' (n + m) (xs ++ news) → w.grownBy w' v.ownBlock → (v'.ownBlock = v.ownBlock ∨ v'.ownBlock = some w.heap.size) → wpList P ops Q rest (a.put o.dst v') w') :
    wpList P ops Q (o :: rest) a w := by
  refine wpList_plain hgd fun K hK => ?_
  obtain ⟨v', w', hr, h2, h3, h4⟩ := run_append_q (P := P) base t o.type e i z size bytes ht hi hz hsize hby hzs hsz v n xs hq ad m c news hl hnews h1 hm h63 hbytes hbase
  unfold Oper.wp execOp
  simp only [ho, resolve, invoke, builtin, Sem.run_bind, Sem.run_pure, Result.andThen_ok, List.map_toArray, List.map_cons, List.map_nil, hs, hx, hr]
  exact hK _ _ (h v' w' h2 h3 h4)
end
/-- the pointer to a block, or nil -/
def ptrV (o : Option Nat) : Value := .pointer (o.map fun g => ⟨g, 0, none⟩)
def ptrI : Option Nat → Int
  | none => -1
  | some g => (g : Int)
theorem ptrI_inj {a b : Option Nat} (h : ptrI a = ptrI b) : a = b := by
  cases a <;> cases b <;> simp [ptrI] at h ⊢ <;> omega
/-- how a pointer to a block reads: by the block's number -/
def ptrElem (v : Value) : Option (DataW Unit × List MemPlace) := match v with
  | .pointer none => some (.lit (.int .i64 (-1)), [])
  | .pointer (some ⟨g, 0, none⟩) => some (.lit (.int .i64 (g : Int)), [])
  | _ => none
theorem ptrElem_mk (o : Option Nat) : ptrElem (ptrV o) = some (.lit (.int .i64 (ptrI o)), []) := by cases o <;> rfl
theorem ptrElem_inv (v : Value) (y : DataW Unit × List MemPlace) (h : ptrElem v = some y) : ∃ o : Option Nat, v = ptrV o ∧ y = (.lit (.int .i64 (ptrI o)), []) := by
  unfold ptrElem at h
  split at h
  · injection h with h; exact ⟨none, rfl, h.symm⟩
  · rename_i g; injection h with h; exact ⟨some g, rfl, h.symm⟩
  · cases h
/-- block b maps points to pointers: M; at most n were laid in -/
def TMap (w : World) (b n : Nat) (M : Int → Int → Option Nat) : Prop :=
  ∃ D : DataW Unit, w.ownsMap Tryz.prog 44 ptrElem b n D ∧ (∀ x y, W64 x → W64 y → Maps.has D (pkey x y) = (M x y).isSome ∧ D.atKey (pkey x y) (.lit (.int .i64 (-1))) = .lit (.int .i64 (ptrI (M x y)))) ∧
    ∀ kl, Maps.has D kl = true → ∃ x y, W64 x ∧ W64 y ∧ kl = pkey x y
section
variable {w w' : World} {b n : Nat} {M M' : Int → Int → Option Nat}
theorem TMap.made (w : World) : TMap (w.alloc (.map #[] 0)) w.heap.size 0 (fun _ _ => none) :=
  ⟨_, World.ownsMap_made _ _ _ _, fun x y _ _ => ⟨by simp [Maps.has], WideAt.atKey_none _ (fun p hp => by simp at hp)⟩, fun kl h => by simp [Maps.has] at h⟩
theorem TMap.lt (h : TMap w b n M) : b < w.heap.size := by
  obtain ⟨D, h, _⟩ := h
  exact h.lt
theorem TMap.block (h : TMap w b n M) (hb : w'.heap[b]? = w.heap[b]?) : TMap w' b n M := by
  obtain ⟨D, ⟨es, clock, hh, r⟩, h2⟩ := h
  exact ⟨D, ⟨es, clock, hb.trans hh, r⟩, h2⟩
theorem TMap.below (h : TMap w b n M) (hb : Below w.heap.size w w') : TMap w' b n M := h.block (hb.block b h.lt)
theorem TMap.kept {row : Option Nat} (h : TMap w b n M) (hg : w.grownBy w' row) (hne : some b ≠ row) : TMap w' b n M := h.block (hg.block b h.lt hne)
theorem TMap.say (h : TMap w b n M) (hS : ∀ x y, M x y = M' x y) : TMap w b n M' := by
  obtain rfl : M = M' := funext fun x => funext fun y => hS x y
  exact h
theorem TMap.put_ {D : DataW Unit} {x y : Int} {g : Nat} (hx : W64 x) (hy : W64 y) (hD : Maps.IsMap D) (hat : ∀ x y, W64 x → W64 y → Maps.has D (pkey x y) = (M x y).isSome ∧ D.atKey (pkey x y) (.lit (.int .i64 (-1))) = .lit (.int .i64 (ptrI (M x y))))
    (hk : ∀ kl, Maps.has D kl = true → ∃ x y, W64 x ∧ W64 y ∧ kl = pkey x y)
    (h1 : w'.ownsMap Tryz.prog 44 ptrElem b n (D.put (pkey x y) (.lit (.int .i64 (ptrI (some g)))))) : TMap w' b n (fun i j => if i = x ∧ j = y then some g else M i j) := by
  refine ⟨_, h1, fun i j hi hj => ?_, fun kl hkl => ?_⟩
  · by_cases hij : i = x ∧ j = y
    · obtain ⟨rfl, rfl⟩ := hij
      have hkl := pt_keyed.key (keyOf_pt hi hj)
      simp only [and_self, if_true]
      exact ⟨Maps.has_put_same hD hkl _, Maps.atKey_put_same hD hkl _ _⟩
    · have hne : pkey i j ≠ pkey x y := fun e => hij (pkey_inj hi hj hx hy e)
      simp only [if_neg hij]
      rw [Maps.has_put_other hne, Maps.atKey_put_other hne]
      exact hat i j hi hj
  · by_cases he : kl = pkey x y
    · exact ⟨x, y, hx, hy, he⟩
    · rw [Maps.has_put_other he] at hkl
      exact hk kl hkl
end
section
variable {ops : Array Oper} {rest : List Oper} {o : Oper} {a : Act} {Q : Exit → Act → World → Prop}
theorem zero_tp (w : World) : (zeroValue 64).run Tryz.prog w = .ok (ptrV none) w := by kernel_rfl
theorem wpList_look_tmap (w : World) (hg : o.guard = none) (m k : Operand) (hop : o.op = Op.lookup 54 m k false) (b n : Nat) (M : Int → Int → Option Nat) (hm : a.eval m = .map (some b)) (h : TMap w b n M) (x y : Int) (hx : W64 x) (hy : W64 y) (hk : a.eval k = .agg #[.int .i64 x, .int .i64 y])
    (r : Option Nat) (hr : M x y = r) (hK : wpList Tryz.prog ops Q rest (a.put o.dst (ptrV r)) w) : wpList Tryz.prog ops Q (o :: rest) a w := by
  subst hr
  obtain ⟨D, hown, hat, _⟩ := h
  have hw : Region.wanted o (yielded ops a.tmps) = true := by simp [Region.wanted, hg]
  refine wpList_wanted hw fun K' hK' => ?_
  obtain ⟨v, ps, hrun, hv⟩ := hown.lookup pt_keyed Tryz.underlying54 (zero_tp w) (ptrElem_mk none) (keyOf_pt hx hy)
  rw [show ptrI none = -1 from rfl, (hat x y hx hy).2] at hv
  obtain ⟨o', rfl, hv'⟩ := ptrElem_inv v _ hv
  injection hv' with hv1
  injection hv1 with hv1
  injection hv1 with _ hv1
  obtain rfl := ptrI_inj hv1
  unfold Oper.wp
  simp [execOp, hop, hm, hk, hrun, Result.andThen]
  exact hK' _ _ hK
theorem wpList_put_tmap (w : World) (hg : o.guard = none) (m k u : Operand) (hop : o.op = Op.mapUpdate 54 m k u ∨ o.op = Op.insert 54 m k u) (b n : Nat) (M : Int → Int → Option Nat) (hm : a.eval m = .map (some b)) (h : TMap w b n M) (x y : Int) (hx : W64 x) (hy : W64 y) (g : Nat) (hn : n < maxLen) (hk : a.eval k = .agg #[.int .i64 x, .int .i64 y]) (hu : a.eval u = .pointer (some ⟨g, 0, none⟩))
    (hK : ∀ w', TMap w' b (n + 1) (fun i j => if i = x ∧ j = y then some g else M i j) → w.grownBy w' (some b) → wpList Tryz.prog ops Q rest (a.put o.dst undef) w') : wpList Tryz.prog ops Q (o :: rest) a w := by
  obtain ⟨D, hown, hat, hks⟩ := h
  have hw : Region.wanted o (yielded ops a.tmps) = true := by simp [Region.wanted, hg]
  refine wpList_wanted hw fun K' hK' => ?_
  obtain ⟨w', hrun, h1, h2⟩ := hown.update pt_keyed Tryz.underlying54 hn (keyOf_pt hx hy) (ptrElem_mk (some g))
  have hrun' : (Instr.mapUpdate 54 (.map (some b)) (.agg #[.int .i64 x, .int .i64 y]) (.pointer (some ⟨g, 0, none⟩))).run Tryz.prog w = .ok () w' := hrun
  rcases hop with hop | hop
  · unfold Oper.wp
    simp [execOp, hop, hm, hk, hu, hrun', Result.andThen]
    exact hK' _ _ (hK w' (TMap.put_ hx hy hown.isMap hat hks h1) h2)
  · unfold Oper.wp
    simp [execOp, hop, hm, hk, hu, hrun', Result.andThen]
    exact hK' _ _ (hK w' (TMap.put_ hx hy hown.isMap hat hks h1) h2)
end
end Go.Proofs.YtdcndhiidjgmaaaGreatDoor
/- Plain facts: rows of points in order; a point put to its place keeps the order; such rows are told by their members. -/

namespace Go.Proofs.YtdcndhiidjgmaaaGreatDoor
open Go.RowKit
def ltP (a b : Pt) : Prop := lessPt a.x a.y b.x b.y = true
theorem ltP_iff (a b : Pt) : ltP a b ↔ a.y < b.y ∨ (a.y = b.y ∧ a.x < b.x) := lessPt_iff _ _ _ _
theorem ltP_irrefl (a : Pt) : ¬ ltP a a := by rw [ltP_iff]; omega
theorem ltP_trans {a b c : Pt} (h : ltP a b) (k : ltP b c) : ltP a c := by rw [ltP_iff] at *; omega
theorem ltP_asymm {a b : Pt} (h : ltP a b) (k : ltP b a) : False := ltP_irrefl _ (ltP_trans h k)
theorem ltP_tri (a b : Pt) (h : ¬ ltP a b) (k : ¬ ltP b a) : a = b := by
  rw [ltP_iff] at h k
  have hx : a.x = b.x := by omega
  have hy : a.y = b.y := by omega
  cases a; cases b; simp_all
/-- in order, each once -/
def SortS (L : List Pt) : Prop := L.Pairwise ltP
theorem pw_ext {α : Type} {lt : α → α → Prop} (irr : ∀ a, ¬ lt a a) (tr : ∀ a b c, lt a b → lt b c → lt a c) : ∀ {L M : List α}, L.Pairwise lt → M.Pairwise lt → (∀ p, p ∈ L ↔ p ∈ M) → L = M
  | [], [], _, _, _ => rfl
  | [], b :: m, _, _, h => by have := (h b).2 (by simp); simp at this
  | a :: l, [], _, _, h => by have := (h a).1 (by simp); simp at this
  | a :: l, b :: m, hL, hM, h => by
    obtain ⟨h1, h2⟩ := List.pairwise_cons.1 hL
    obtain ⟨k1, k2⟩ := List.pairwise_cons.1 hM
    have hab : a = b := by
      rcases List.mem_cons.1 ((h a).1 (by simp)) with e | e
      · exact e
      · rcases List.mem_cons.1 ((h b).2 (by simp)) with e' | e'
        · exact e'.symm
        · exact (irr _ (tr _ _ _ (h1 b e') (k1 a e))).elim
    subst hab
    rw [pw_ext irr tr h2 k2 (fun p => by
      constructor
      · intro hp
        rcases List.mem_cons.1 ((h p).1 (by simp [hp])) with e | e
        · subst e; exact (irr _ (h1 _ hp)).elim
        · exact e
      · intro hp
        rcases List.mem_cons.1 ((h p).2 (by simp [hp])) with e | e
        · subst e; exact (irr _ (k1 _ hp)).elim
        · exact e)]
theorem SortS.ext {L M : List Pt} (hL : SortS L) (hM : SortS M) (h : ∀ p, p ∈ L ↔ p ∈ M) : L = M := pw_ext ltP_irrefl (fun _ _ _ h k => ltP_trans h k) hL hM h
theorem SortS.get {L : List Pt} (h : SortS L) {i j : Nat} {a b : Pt} (hij : i < j) (ha : L[i]? = some a) (hb : L[j]? = some b) : ltP a b := by
  obtain ⟨hi, rfl⟩ := List.getElem?_eq_some_iff.1 ha
  obtain ⟨hj, rfl⟩ := List.getElem?_eq_some_iff.1 hb
  exact List.pairwise_iff_getElem.1 h i j hi hj hij
theorem putAt_before {L : List Pt} (h : SortS L) {x y : Int} : ∀ a, a ≤ L.length → ∀ j e, j < putAt L x y a → L[j]? = some e → ltP e ⟨x, y⟩
  | 0, _, j, e, hj, _ => by simp [putAt] at hj
  | a + 1, ha, j, e, hj, he => by
    obtain ⟨d, hd⟩ : ∃ d, L[a]? = some d := ⟨_, List.getElem?_eq_getElem (by omega)⟩
    cases hl : lessPt d.x d.y x y
    · rw [putAt_go hd hl] at hj
      exact putAt_before h a (by omega) j e hj he
    · rw [putAt_stop hd hl] at hj
      rcases Nat.lt_succ_iff_lt_or_eq.1 hj with hj | rfl
      · exact ltP_trans (h.get hj he hd) hl
      · rw [hd] at he; obtain rfl := Option.some.inj he; exact hl
theorem putAt_after {L : List Pt} {x y : Int} : ∀ a, a ≤ L.length → ∀ j e, putAt L x y a ≤ j → j < a → L[j]? = some e → ¬ ltP e ⟨x, y⟩
  | 0, _, j, e, _, hj, _ => by omega
  | a + 1, ha, j, e, h1, h2, he => by
    obtain ⟨d, hd⟩ : ∃ d, L[a]? = some d := ⟨_, List.getElem?_eq_getElem (by omega)⟩
    cases hl : lessPt d.x d.y x y
    · rw [putAt_go hd hl] at h1
      rcases Nat.lt_succ_iff_lt_or_eq.1 h2 with h2 | rfl
      · exact putAt_after a (by omega) j e h1 h2 he
      · rw [hd] at he; obtain rfl := Option.some.inj he
        unfold ltP; rw [hl]; decide
    · rw [putAt_stop hd hl] at h1; omega
theorem putP_sorted {L : List Pt} (h : SortS L) (x y : Int) : SortS (putP L x y) := by
  unfold putP
  simp only []
  split
  · exact h
  · rename_i hne
    have hle := putAt_le L x y L.length
    have hb := putAt_before h (x := x) (y := y) L.length (Nat.le_refl _)
    have ha := putAt_after (L := L) (x := x) (y := y) L.length (Nat.le_refl _)
    obtain ⟨a, hae⟩ : ∃ a, putAt L x y L.length = a := ⟨_, rfl⟩
    rw [hae] at hle hb ha hne ⊢
    have hgt : ∀ j e, a ≤ j → L[j]? = some e → ltP ⟨x, y⟩ e := fun j e hj he => by
      have hjl := lt_of_get he
      have h1 := ha j e hj hjl he
      apply Classical.byContradiction
      intro h2
      have hE := ltP_tri _ _ h1 h2
      subst hE
      rcases Nat.lt_or_ge a j with h3 | h3
      · obtain ⟨d, hd⟩ : ∃ d, L[a]? = some d := ⟨_, List.getElem?_eq_getElem (by omega)⟩
        exact ha a d (Nat.le_refl _) (by omega) hd (h.get h3 hd he)
      · obtain rfl : j = a := by omega
        exact hne he
    show (L.take a ++ ⟨x, y⟩ :: L.drop a).Pairwise ltP
    rw [List.pairwise_append]
    refine ⟨List.Pairwise.sublist (List.take_sublist _ _) h, List.pairwise_cons.2 ⟨fun e he => ?_, List.Pairwise.sublist (List.drop_sublist _ _) h⟩, fun d hd e he => ?_⟩
    · obtain ⟨i, hi, rfl⟩ := List.mem_iff_getElem.1 he
      rw [List.length_drop] at hi
      exact hgt (a + i) _ (by omega) (by rw [List.getElem_drop]; exact List.getElem?_eq_getElem (by omega))
    · obtain ⟨i, hi, rfl⟩ := List.mem_iff_getElem.1 hd
      rw [List.length_take] at hi
      have h1 : ltP (L.take a)[i] ⟨x, y⟩ := hb i _ (by omega) (by rw [List.getElem_take]; exact List.getElem?_eq_getElem (by omega))
      rcases List.mem_cons.1 he with rfl | he
      · exact h1
      · obtain ⟨k, hk, rfl⟩ := List.mem_iff_getElem.1 he
        rw [List.length_drop] at hk
        exact ltP_trans h1 (hgt (a + k) _ (by omega) (by rw [List.getElem_drop]; exact List.getElem?_eq_getElem (by omega)))
/-- points put to a list, one after the other -/
def putAll (L : List Pt) : List Pt → List Pt
  | [] => L
  | p :: ps => putAll (putP L p.x p.y) ps
theorem putAll_mem {q : Pt} : ∀ (ps : List Pt) (L : List Pt), q ∈ putAll L ps ↔ q ∈ L ∨ q ∈ ps
  | [], L => by simp [putAll]
  | p :: ps, L => by
    simp only [putAll]
    rw [putAll_mem ps, putP_mem, List.mem_cons]
    constructor
    · rintro ((h | h) | h)
      · exact Or.inl h
      · exact Or.inr (Or.inl h)
      · exact Or.inr (Or.inr h)
    · rintro (h | h | h)
      · exact Or.inl (Or.inl h)
      · exact Or.inl (Or.inr h)
      · exact Or.inr h
theorem putAll_sorted : ∀ (ps : List Pt) (L : List Pt), SortS L → SortS (putAll L ps)
  | [], L, h => h
  | p :: ps, L, h => putAll_sorted ps _ (putP_sorted h p.x p.y)
theorem putAll_snoc : ∀ (ps : List Pt) (L : List Pt) (p : Pt), putAll L (ps ++ [p]) = putP (putAll L ps) p.x p.y
  | [], L, p => rfl
  | q :: ps, L, p => by simp only [List.cons_append, putAll]; exact putAll_snoc ps _ p
theorem putP_id {L : List Pt} (h : SortS L) {p : Pt} (hp : p ∈ L) : putP L p.x p.y = L :=
  SortS.ext (putP_sorted h _ _) h fun q => by
    rw [putP_mem]
    constructor
    · rintro (h1 | rfl)
      · exact h1
      · exact hp
    · exact Or.inl
/-- what is left of a row where of equals that follow one another one stays -/
def compactP : List Pt → List Pt
  | [] => []
  | [a] => [a]
  | a :: b :: l => if a = b then compactP (b :: l) else a :: compactP (b :: l)
theorem compactP_mem {p : Pt} : ∀ L : List Pt, p ∈ compactP L ↔ p ∈ L
  | [] => by simp [compactP]
  | [a] => by simp [compactP]
  | a :: b :: l => by
    simp only [compactP]
    split
    · rename_i h; subst h; rw [compactP_mem (a :: l)]; simp
    · rw [List.mem_cons, compactP_mem (b :: l), List.mem_cons (l := b :: l)]
theorem compactP_sorted : ∀ L : List Pt, L.Pairwise (fun a b => ¬ ltP b a) → SortS (compactP L)
  | [], _ => List.Pairwise.nil
  | [a], _ => List.pairwise_singleton _ _
  | a :: b :: l, h => by
    obtain ⟨h1, h2⟩ := List.pairwise_cons.1 h
    simp only [compactP]
    split
    · exact compactP_sorted _ h2
    · rename_i hne
      refine List.pairwise_cons.2 ⟨fun e he => ?_, compactP_sorted _ h2⟩
      rw [compactP_mem] at he
      have hab : ltP a b := by
        apply Classical.byContradiction
        intro hc
        exact hne (ltP_tri _ _ hc (h1 b (by simp)))
      rcases List.mem_cons.1 he with rfl | he
      · exact hab
      · have hbe := (List.pairwise_cons.1 h2).1 e he
        apply Classical.byContradiction
        intro hc
        have := ltP_tri _ _ hc (h1 e (by simp [he]))
        subst this
        exact hbe hab
/-- sorted and made single -/
theorem compact_put {L M : List Pt} (hm : ∀ p, p ∈ M ↔ p ∈ L) (hs : M.Pairwise (fun a b => ¬ ltP b a)) : compactP M = putAll [] L :=
  SortS.ext (compactP_sorted M hs) (putAll_sorted L [] List.Pairwise.nil) fun p => by rw [compactP_mem, hm, putAll_mem]; simp
end Go.Proofs.YtdcndhiidjgmaaaGreatDoor
/- Walks: a point looked for in a row of points in order. -/


namespace Go.Proofs.YtdcndhiidjgmaaaGreatDoor
open Go.RowKit
attribute [local go_sem] BelowBy.cell BelowBy.cell_drew stillUpon givesUpon

/-- where a binary search stops -/
structure Stop (L : List Pt) (x y : Int) (r : Nat) (b : Bool) : Prop where
  le : r ≤ L.length
  lt : ∀ (k : Nat) (d : Pt), k < r → L[k]? = some d → lessPt d.x d.y x y = true
  ge : ∀ (k : Nat) (d : Pt), r ≤ k → L[k]? = some d → lessPt d.x d.y x y = false
  yes : b = true → L[r]? = some ⟨x, y⟩
  no : b = false → ¬ (⟨x, y⟩ : Pt) ∈ L
theorem Stop.mem {L : List Pt} {x y : Int} {r : Nat} {b : Bool} (h : Stop L x y r b) : b = decide ((⟨x, y⟩ : Pt) ∈ L) := by
  cases b
  · exact (decide_eq_false (h.no rfl)).symm
  · exact (decide_eq_true (List.mem_of_getElem? (h.yes rfl))).symm
def SearchP (w : World) (L : List Pt) (x y : Int) (e : Ending) (w' : World) : Prop :=
  ∃ (r : Nat) (b : Bool), e = .returned (.tuple #[.int .i64 (r : Int), .bool b]) ∧ Stop L x y r b ∧ Below w.heap.size w w'
theorem comparePointsP_at {e : Pt} {x y : Int} {w : World} :
    Calls Tryz.prog 33 #[.agg #[.int .i64 e.x, .int .i64 e.y], .agg #[.int .i64 x, .int .i64 y]] w fun e' w' => e' = .returned (.int .i64 (cmpPt e.x e.y x y)) ∧ Below w.heap.size w w' := comparePoints_any _ _ _ _ _
theorem stop_no {L : List Pt} (hS : SortS L) {x y : Int} {i : Nat} (h1 : ∀ (k : Nat) (d : Pt), k < i → L[k]? = some d → lessPt d.x d.y x y = true) (h2 : ∀ (k : Nat) (d : Pt), i ≤ k → L[k]? = some d → lessPt d.x d.y x y = false) (h3 : ∀ d, L[i]? = some d → ¬ (d.x = x ∧ d.y = y)) : ¬ (⟨x, y⟩ : Pt) ∈ L := by
  intro hm
  obtain ⟨k, hk, hke⟩ := List.mem_iff_getElem.1 hm
  have hke' : L[k]? = some ⟨x, y⟩ := List.getElem?_eq_some_iff.2 ⟨hk, hke⟩
  rcases Nat.lt_trichotomy k i with h | rfl | h
  · exact ltP_irrefl ⟨x, y⟩ (h1 k _ h hke')
  · exact h3 _ hke' ⟨rfl, rfl⟩
  · obtain ⟨d, hd⟩ : ∃ d, L[i]? = some d := ⟨_, List.getElem?_eq_getElem (by omega)⟩
    have := hS.get h hd hke'
    have h4 := h2 i d (Nat.le_refl _) hd
    unfold ltP at this
    simp only at this
    rw [h4] at this; cases this
set_option maxHeartbeats 2000000 in
theorem BinarySearchP_any (A : Option Addr) (n c : Nat) (L : List Pt) (x y : Int) (w : World) (h2 : RdSl 2 RPt w A n L) (hS : SortS L) (h5 : n ≤ 100000) :
    Calls Tryz.prog 32 #[.slice A n c, .agg #[.int .i64 x, .int .i64 y], .func (.func 33) #[] #[]] w (SearchP w L x y) := by
  have hl := h2.len
  
  go_enter Tryz.func32, Tryz.ntmps32
  go_wp2
  go_loopg [9, 10] n (fun g lo hi wr => ∃ i j : Nat, j - i ≤ g ∧ i ≤ j ∧ j ≤ n ∧ lo = .int .i64 i ∧ hi = .int .i64 j ∧ (∀ (k : Nat) (d : Pt), k < i → L[k]? = some d → lessPt d.x d.y x y = true) ∧ (∀ (k : Nat) (d : Pt), j ≤ k → L[k]? = some d → lessPt d.x d.y x y = false) ∧
    Below w.heap.size w wr ∧ wr.cell? ⟨w.heap.size, 0, none⟩ = some (.int .i64 x) ∧ wr.cell? ⟨w.heap.size, 1, none⟩ = some (.int .i64 y) ∧ w.heap.size < wr.heap.size)
  case atStart => exact ⟨0, n, by omega, by omega, by omega, rfl, rfl, fun k d hk => by omega, fun k d hk hd => by have := lt_of_get hd; omega, by exact bel_, by go_simp, by go_simp, by simp⟩
  case round =>
    obtain ⟨i, j, hg, hij, hjn, rfl, rfl, hloX, hhiX, hbw, hx0, hx1, hsz⟩ := hrel
    have hlo := Lib.hid hloX
    have hhi := Lib.hid hhiX
    clear hloX hhiX
    have g2 := h2.below RPt.stable hbw
    by_cases hlt2 : i < j
    · obtain ⟨b, o, rfl, hb, hc⟩ := g2.ptr (by omega)
      obtain ⟨m, hm⟩ : ∃ m : Nat, m = (i + j) / 2 := ⟨_, rfl⟩
      have hm1 : i ≤ m := by omega
      have hm2 : m < j := by omega
      have hmi : ((i : Int) + (j : Int)) / 2 = (m : Int) := by omega
      have hmn : m < n := by omega
      clear hm
      obtain ⟨e, he⟩ := g2.get (k := m) (by omega)
      obtain ⟨c0, c1⟩ := hc m e he
      have he := Lib.hid he
      clear hc g2
      cases hl4 : lessPt e.x e.y x y
      · have hcz : decide (cmpPt e.x e.y x y < 0) = false := hl4
        go_wp2
        refine wp_region_ord [(0, .q), (1, .q), (2, .q), (3, .q), (4, .q), (5, .q), (6, .g), (7, .q)] (by kernel_rfl) (by kernel_rfl) ?_
        simp only [pick, List.filterMap_cons, List.filterMap_nil, List.getElem?_toArray, List.getElem?_cons_zero, List.getElem?_cons_succ, Option.map_some]
        repeat (first
          | ((with_reducible refine wpD_p (fun K hK => ?_)); go_simp; refine hK _ ?_; clear hK K)
          | ((with_reducible refine wpD_q (fun K hK => ?_)); go_simp; (first | refine hK _ ?_ | (go_bits; refine hK _ ?_) | (go_bits; go_simp; refine hK _ ?_)); clear hK K)
          | ((with_reducible refine wpD_g (fun K hK => ?_)); go_simp; refine hK _ _ ?_; clear hK K)
          | ((with_reducible refine wpD_g (fun K hK => ?_)); go_simp; refine ⟨Grew.of_alloc _, hK _ _ ?_⟩; clear hK K)
          | ((with_reducible refine wpD_g (fun K hK => ?_)); go_simp; go_at_call 33; refine (comparePointsP_at (e := e)).mono ?_; rintro e w1 ⟨rfl, hb1⟩; refine ⟨_, rfl, hb1, hK _ _ ?_⟩; clear hK K; obtain ⟨chb1, fhb1, shb1, thb1⟩ := bcell hb1))
        with_reducible refine wpD_nil ?_
        go_wp2
        go_roundg (m - i)
        case measure => omega
        case rel => exact ⟨i, m, by omega, hm1, by omega, rfl, rfl, hlo.out, fun k d hk hd => (by
            rcases Nat.lt_or_ge m k with hmk | hmk
            · cases hh : lessPt d.x d.y x y with
              | false => rfl
              | true => rw [← hl4]; exact (ltP_trans (hS.get hmk he.out hd) (show ltP d ⟨x, y⟩ from hh)).symm
            · obtain rfl : m = k := by omega
              rw [he.out] at hd
              obtain rfl := Option.some.inj hd
              exact hl4), by exact bel_, (hb1.cell (p := ⟨w.heap.size, 0, none⟩) hsz).trans hx0, (hb1.cell (p := ⟨w.heap.size, 1, none⟩) hsz).trans hx1, Nat.lt_of_lt_of_le hsz hb1.size⟩
      · have hcz : decide (cmpPt e.x e.y x y < 0) = true := hl4
        go_wp2
        refine wp_region_ord [(0, .q), (1, .q), (2, .q), (3, .q), (4, .q), (5, .q), (6, .g), (7, .q)] (by kernel_rfl) (by kernel_rfl) ?_
        simp only [pick, List.filterMap_cons, List.filterMap_nil, List.getElem?_toArray, List.getElem?_cons_zero, List.getElem?_cons_succ, Option.map_some]
        repeat (first
          | ((with_reducible refine wpD_p (fun K hK => ?_)); go_simp; refine hK _ ?_; clear hK K)
          | ((with_reducible refine wpD_q (fun K hK => ?_)); go_simp; (first | refine hK _ ?_ | (go_bits; refine hK _ ?_) | (go_bits; go_simp; refine hK _ ?_)); clear hK K)
          | ((with_reducible refine wpD_g (fun K hK => ?_)); go_simp; refine hK _ _ ?_; clear hK K)
          | ((with_reducible refine wpD_g (fun K hK => ?_)); go_simp; refine ⟨Grew.of_alloc _, hK _ _ ?_⟩; clear hK K)
          | ((with_reducible refine wpD_g (fun K hK => ?_)); go_simp; go_at_call 33; refine (comparePointsP_at (e := e)).mono ?_; rintro e w1 ⟨rfl, hb1⟩; refine ⟨_, rfl, hb1, hK _ _ ?_⟩; clear hK K; obtain ⟨chb1, fhb1, shb1, thb1⟩ := bcell hb1))
        with_reducible refine wpD_nil ?_
        go_wp2
        go_roundg (j - (m + 1))
        case measure => omega
        case rel => exact ⟨m + 1, j, by omega, hm2, by omega, by go_num, rfl, fun k d hk hd => (by
            rcases Nat.lt_or_ge k m with hmk | hmk
            · exact ltP_trans (hS.get hmk hd he.out) (show ltP e ⟨x, y⟩ from hl4)
            · obtain rfl : m = k := by omega
              rw [he.out] at hd
              obtain rfl := Option.some.inj hd
              exact hl4), hhi.out, by exact bel_, (hb1.cell (p := ⟨w.heap.size, 0, none⟩) hsz).trans hx0, (hb1.cell (p := ⟨w.heap.size, 1, none⟩) hsz).trans hx1, Nat.lt_of_lt_of_le hsz hb1.size⟩
    · obtain rfl : i = j := by omega
      by_cases hin : i < n
      · obtain ⟨b, o, rfl, hb, hc⟩ := g2.ptr (by omega)
        obtain ⟨e, he⟩ := g2.get (k := i) (by omega)
        obtain ⟨c0, c1⟩ := hc i e he
        have he := Lib.hid he
        clear hc g2
        by_cases hxy : e.x = x ∧ e.y = y
        · have hcz : (cmpPt e.x e.y x y == 0) = true := by rw [cmpPt_zero]; exact decide_eq_true hxy
          have hP := Lib.hid (show Stop L x y i true from ⟨by omega, hlo.out, hhi.out, fun _ => by rw [he.out]; obtain ⟨rfl, rfl⟩ := hxy; rfl, fun hh => by cases hh⟩)
          clear hxy
          go_wp2
          refine wp_region_ord [(0, .q), (1, .q), (2, .q), (3, .q), (4, .q), (5, .q), (6, .q), (7, .q), (8, .q), (9, .q), (10, .q), (11, .g), (12, .q), (13, .q), (14, .q), (15, .q)] (by kernel_rfl) (by kernel_rfl) ?_
          simp only [pick, List.filterMap_cons, List.filterMap_nil, List.getElem?_toArray, List.getElem?_cons_zero, List.getElem?_cons_succ, Option.map_some]
          repeat (first
            | ((with_reducible refine wpD_p (fun K hK => ?_)); go_simp; refine hK _ ?_; clear hK K)
            | ((with_reducible refine wpD_q (fun K hK => ?_)); go_simp; (first | refine hK _ ?_ | (go_bits; refine hK _ ?_) | (go_bits; go_simp; refine hK _ ?_)); clear hK K)
            | ((with_reducible refine wpD_g (fun K hK => ?_)); go_simp; refine hK _ _ ?_; clear hK K)
            | ((with_reducible refine wpD_g (fun K hK => ?_)); go_simp; refine ⟨Grew.of_alloc _, hK _ _ ?_⟩; clear hK K)
            | ((with_reducible refine wpD_g (fun K hK => ?_)); go_simp; go_at_call 33; refine (comparePointsP_at (e := e)).mono ?_; rintro e w1 ⟨rfl, hb1⟩; refine ⟨_, rfl, hb1, hK _ _ ?_⟩; clear hK K; obtain ⟨chb1, fhb1, shb1, thb1⟩ := bcell hb1))
          with_reducible refine wpD_nil ?_
          go_wp2
          go_ret2
          exact ⟨_, _, rfl, hP.out, by exact bel_⟩
        · have hcz : (cmpPt e.x e.y x y == 0) = false := by rw [cmpPt_zero]; exact decide_eq_false hxy
          have hP := Lib.hid (show Stop L x y i false from ⟨by omega, hlo.out, hhi.out, fun hh => (by cases hh), fun _ => stop_no hS hlo.out hhi.out (fun d hd => by rw [he.out] at hd; obtain rfl := Option.some.inj hd; exact hxy)⟩)
          clear hxy
          go_wp2
          refine wp_region_ord [(0, .q), (1, .q), (2, .q), (3, .q), (4, .q), (5, .q), (6, .q), (7, .q), (8, .q), (9, .q), (10, .q), (11, .g), (12, .q), (13, .q), (14, .q), (15, .q)] (by kernel_rfl) (by kernel_rfl) ?_
          simp only [pick, List.filterMap_cons, List.filterMap_nil, List.getElem?_toArray, List.getElem?_cons_zero, List.getElem?_cons_succ, Option.map_some]
          repeat (first
            | ((with_reducible refine wpD_p (fun K hK => ?_)); go_simp; refine hK _ ?_; clear hK K)
            | ((with_reducible refine wpD_q (fun K hK => ?_)); go_simp; (first | refine hK _ ?_ | (go_bits; refine hK _ ?_) | (go_bits; go_simp; refine hK _ ?_)); clear hK K)
            | ((with_reducible refine wpD_g (fun K hK => ?_)); go_simp; refine hK _ _ ?_; clear hK K)
            | ((with_reducible refine wpD_g (fun K hK => ?_)); go_simp; refine ⟨Grew.of_alloc _, hK _ _ ?_⟩; clear hK K)
            | ((with_reducible refine wpD_g (fun K hK => ?_)); go_simp; go_at_call 33; refine (comparePointsP_at (e := e)).mono ?_; rintro e w1 ⟨rfl, hb1⟩; refine ⟨_, rfl, hb1, hK _ _ ?_⟩; clear hK K; obtain ⟨chb1, fhb1, shb1, thb1⟩ := bcell hb1))
          with_reducible refine wpD_nil ?_
          go_wp2
          go_ret2
          exact ⟨_, _, rfl, hP.out, by exact bel_⟩
      · have hP := Lib.hid (show Stop L x y i false from ⟨by omega, hlo.out, hhi.out, fun hh => (by cases hh), fun _ => stop_no hS hlo.out hhi.out (fun d hd => by have := lt_of_get hd; omega)⟩)
        clear g2
        go_wp2
        refine wp_region_ord [(0, .q), (1, .q), (2, .q), (3, .q), (4, .q), (5, .q), (6, .q), (7, .q), (8, .q), (9, .q), (10, .q), (11, .g), (12, .q), (13, .q), (14, .q), (15, .q)] (by kernel_rfl) (by kernel_rfl) ?_
        simp only [pick, List.filterMap_cons, List.filterMap_nil, List.getElem?_toArray, List.getElem?_cons_zero, List.getElem?_cons_succ, Option.map_some]
        repeat (first
          | ((with_reducible refine wpD_p (fun K hK => ?_)); go_simp; refine hK _ ?_; clear hK K)
          | ((with_reducible refine wpD_q (fun K hK => ?_)); go_simp; (first | refine hK _ ?_ | (go_bits; refine hK _ ?_) | (go_bits; go_simp; refine hK _ ?_)); clear hK K)
          | ((with_reducible refine wpD_g (fun K hK => ?_)); go_simp; refine hK _ _ ?_; clear hK K)
          | ((with_reducible refine wpD_g (fun K hK => ?_)); go_simp; refine ⟨Grew.of_alloc _, hK _ _ ?_⟩; clear hK K)
          | ((with_reducible refine wpD_g (fun K hK => ?_)); go_simp; go_at_call 33; refine (comparePoints_any _ _ _ _ _).mono ?_; rintro e w1 ⟨rfl, hb1⟩; refine ⟨_, rfl, hb1, hK _ _ ?_⟩; clear hK K; obtain ⟨chb1, fhb1, shb1, thb1⟩ := bcell hb1))
        with_reducible refine wpD_nil ?_
        go_wp2
        go_ret2
        exact ⟨_, _, rfl, hP.out, by exact bel_⟩
theorem isIn_at {A : Option Addr} {n c : Nat} {L : List Pt} {x y : Int} {w : World} (h2 : RdSl 2 RPt w A n L) (hS : SortS L) (h5 : n ≤ 100000) {r : Bool} (hr : decide ((⟨x, y⟩ : Pt) ∈ L) = r) :
    Calls Tryz.prog 55 #[.slice A n c, .agg #[.int .i64 x, .int .i64 y]] w fun e w' => e = .returned (.bool r) ∧ Below w.heap.size w w' := by
  
  have h2H := Lib.hid h2
  clear h2
  go_enter Tryz.func55, Tryz.ntmps55
  go_wp2_with fail
  refine (BinarySearchP_any _ _ _ L _ _ _ (h2H.out.below RPt.stable (by exact bel_)) hS h5).mono ?_
  rintro e w1 ⟨i, b, rfl, hst, hb1⟩
  have hb := Lib.hid (hst.mem.trans hr)
  clear hst hr
  go_wp2
  go_ret
  exact ⟨ret_bool hb.out, by exact bel_⟩
end Go.Proofs.YtdcndhiidjgmaaaGreatDoor
/- Walks: the program reaches the points of a shape from one of them. -/


namespace Go.Proofs.YtdcndhiidjgmaaaGreatDoor
open Go.RowKit Go.Shelf
attribute [local go_sem] BelowBy.cell BelowBy.cell_drew stillUpon givesUpon

theorem Shp.sortedS {ps : List Pt} (h : Shp ps) : SortS ps := by
  unfold SortS
  rw [List.pairwise_iff_getElem]
  exact fun i j hi hj hij => h.sorted i j _ _ hij (List.getElem?_eq_getElem hi) (List.getElem?_eq_getElem hj)
theorem idxP_mem {ps : List Pt} {x y : Int} {v : Nat} (h : idxP ps x y = some v) : decide ((⟨x, y⟩ : Pt) ∈ ps) = true :=
  decide_eq_true (List.mem_of_getElem? (idxP_some h))
theorem idxP_off {ps : List Pt} {x y : Int} (h : idxP ps x y = none) : decide ((⟨x, y⟩ : Pt) ∈ ps) = false :=
  decide_eq_false fun hm => by
    obtain ⟨k, hk⟩ := List.mem_iff_getElem?.1 hm
    exact idxP_none h k hk
/-- a trip: its point, the block of the one before it, direction and steps -/
structure TripAt (w : World) (g : Nat) (e : Pt) (f : Option Nat) (d s : Int) : Prop where
  lt : g < w.heap.size
  c0 : w.cell? ⟨g, 0, none⟩ = some (.int .i64 e.x)
  c1 : w.cell? ⟨g, 1, none⟩ = some (.int .i64 e.y)
  c2 : w.cell? ⟨g, 2, none⟩ = some (ptrV f)
  c3 : w.cell? ⟨g, 3, none⟩ = some (.int .i64 d)
  c4 : w.cell? ⟨g, 4, none⟩ = some (.int .i64 s)
  ob : ∃ c, w.heap[g]? = some (Obj.cells c 66)
theorem TripAt.kept {w w' : World} {g : Nat} {e : Pt} {f : Option Nat} {d s : Int} {row : Option Nat} (h : TripAt w g e f d s) (hg : w.grownBy w' row) (hne : some g ≠ row) : TripAt w' g e f d s := by
  have hb : ∀ o, w'.cell? ⟨g, o, none⟩ = w.cell? ⟨g, o, none⟩ := fun o => World.cell?_of_block (a := ⟨g, o, none⟩) (hg.block g h.lt hne)
  exact ⟨Nat.lt_of_lt_of_le h.lt hg.size, (hb 0).trans h.c0, (hb 1).trans h.c1, (hb 2).trans h.c2, (hb 3).trans h.c3, (hb 4).trans h.c4, h.ob.imp fun c hc => (hg.block g h.lt hne).trans hc⟩
abbrev WaySt := List Nat × List Int × List Int
/-- the trips of a search: T gives the block of a place's trip -/
structure Trips (w : World) (B : Nat) (ps : List Pt) (st : WaySt) (T : Nat → Option Nat) : Prop where
  off : ∀ v, v ∉ st.1 → T v = none
  on : ∀ v, v ∈ st.1 → ∃ (g : Nat) (e : Pt) (f : Option Nat) (d s : Int), T v = some g ∧ B ≤ g ∧ ps[v]? = some e ∧ st.2.1[v]? = some d ∧ st.2.2[v]? = some s ∧ TripAt w g e f d s ∧
    ((d = -1 ∧ f = none) ∨ ∃ dn u : Nat, d = (dn : Int) ∧ dn < 4 ∧ nbP ps v dn = some u ∧ u ∈ st.1 ∧ f = T u)
  inj : ∀ u v g, T u = some g → T v = some g → u = v
section
variable {w w' : World} {B : Nat} {ps : List Pt} {st : WaySt} {T : Nat → Option Nat}
theorem Trips.kept {row : Option Nat} (h : Trips w B ps st T) (hg : w.grownBy w' row) (hne : ∀ u g, T u = some g → some g ≠ row) : Trips w' B ps st T := by
  refine ⟨h.off, fun v hv => ?_, h.inj⟩
  obtain ⟨g, e, f, d, s, h1, h2, h3, h4, h5, h6, h7⟩ := h.on v hv
  exact ⟨g, e, f, d, s, h1, h2, h3, h4, h5, h6.kept hg (hne v g h1), h7⟩
theorem Trips.below (h : Trips w B ps st T) (hb : Below w.heap.size w w') : Trips w' B ps st T := h.kept (grown_below hb none) (fun u g _ e => by cases e)
theorem Trips.lt (h : Trips w B ps st T) {u g : Nat} (hu : T u = some g) : B ≤ g ∧ g < w.heap.size := by
  rcases Classical.em (u ∈ st.1) with hm | hm
  · obtain ⟨g', e, f, d, s, h1, h2, h3, h4, h5, h6, h7⟩ := h.on u hm
    rw [hu] at h1
    injection h1 with h1
    subst h1
    exact ⟨h2, h6.lt⟩
  · rw [h.off u hm] at hu; cases hu
/-- one more trip -/
theorem Trips.push {n r : Nat} {u v g d : Nat} {e : Pt} {su : Int} (h : Trips w B ps st T) (hI : WayInv n r st) (hv : st.2.2[v]? = some (-1)) (hvn : v < n) (he : ps[v]? = some e) (hu : u ∈ st.1) (hd : d < 4) (hb : nbP ps v ((d + 2) % 4) = some u)
    (hgB : B ≤ g) (hT : ∀ x y, T x = some y → y < g) (ht : TripAt w g e (T u) (backI d) su) : Trips w B ps (st.1 ++ [v], st.2.1.set v (backI d), st.2.2.set v su) (fun x => if x = v then some g else T x) := by
  have hnv : v ∉ st.1 := fun hm => by
    obtain ⟨s, hs, h0, _⟩ := hI.is v hm
    rw [hv] at hs
    injection hs with hs
    omega
  have hne : ∀ x ∈ st.1, x ≠ v := fun x hx e' => hnv (e' ▸ hx)
  refine ⟨fun x hx => ?_, fun x hx => ?_, fun x y k hx hy => ?_⟩
  · have h1 : x ∉ st.1 := fun hm => hx (List.mem_append.2 (.inl hm))
    have h2 : x ≠ v := fun e' => hx (List.mem_append.2 (.inr (by simp [e'])))
    simp only [if_neg h2]
    exact h.off x h1
  · rcases List.mem_append.1 hx with hx | hx
    · obtain ⟨g', e', f, d', s, h1, h2, h3, h4, h5, h6, h7⟩ := h.on x hx
      have hxv := hne x hx
      refine ⟨g', e', f, d', s, by simp only [if_neg hxv]; exact h1, h2, h3, ?_, ?_, h6, ?_⟩
      · show (st.2.1.set v _)[x]? = _
        rw [List.getElem?_set_ne (Ne.symm hxv)]; exact h4
      · show (st.2.2.set v _)[x]? = _
        rw [List.getElem?_set_ne (Ne.symm hxv)]; exact h5
      · rcases h7 with h7 | ⟨dn, u', a1, a2, a3, a4, a5⟩
        · exact .inl h7
        · exact .inr ⟨dn, u', a1, a2, a3, List.mem_append.2 (.inl a4), by simp only [if_neg (hne u' a4)]; exact a5⟩
    · simp at hx
      subst hx
      refine ⟨g, e, T u, backI d, su, by simp, hgB, he, ?_, ?_, ht, .inr ⟨(d + 2) % 4, u, rfl, by omega, hb, List.mem_append.2 (.inl hu), by simp only [if_neg (hne u hu)]⟩⟩
      · show (st.2.1.set x _)[x]? = _
        rw [List.getElem?_set_self (by rw [hI.lp]; exact hvn)]
      · show (st.2.2.set x _)[x]? = _
        rw [List.getElem?_set_self (by rw [hI.ls]; exact hvn)]
  · by_cases hxv : x = v
    · by_cases hyv : y = v
      · rw [hxv, hyv]
      · simp only [if_pos hxv, if_neg hyv] at hx hy
        injection hx with hx
        have := hT y k hy
        omega
    · by_cases hyv : y = v
      · simp only [if_neg hxv, if_pos hyv] at hx hy
        injection hy with hy
        have := hT x k hx
        omega
      · simp only [if_neg hxv, if_neg hyv] at hx hy
        exact h.inj x y k hx hy
end
/-- what the map of the trips says -/
def tripM (ps : List Pt) (T : Nat → Option Nat) (x y : Int) : Option Nat := (idxP ps x y).bind T
theorem tripM_none {ps : List Pt} {T : Nat → Option Nat} {x y : Int} (h : idxP ps x y = none) : tripM ps T x y = none := by unfold tripM; rw [h]; rfl
theorem tripM_at {ps : List Pt} {T : Nat → Option Nat} {x y : Int} {v : Nat} (h : idxP ps x y = some v) : tripM ps T x y = T v := by unfold tripM; rw [h]; rfl
theorem tripM_put {ps : List Pt} (hS : Shp ps) {T : Nat → Option Nat} {v g : Nat} {e : Pt} (he : ps[v]? = some e) (x y : Int) : (if x = e.x ∧ y = e.y then some g else tripM ps T x y) = tripM ps (fun u => if u = v then some g else T u) x y := by
  unfold tripM
  by_cases hxy : x = e.x ∧ y = e.y
  · obtain ⟨rfl, rfl⟩ := hxy
    rw [hS.idx he]
    simp
  · rw [if_neg hxy]
    cases hi : idxP ps x y with
    | none => rfl
    | some k =>
      have hk : k ≠ v := fun e' => by
        subst e'
        have := idxP_some hi
        rw [he] at this
        injection this with this
        subst this
        exact hxy ⟨rfl, rfl⟩
      simp [hk]
theorem way1_none {ps : List Pt} {k d u : Nat} {st : WaySt} {e : Pt} (hu : st.1[k]? = some u) (he : ps[u]? = some e) (hl : idxP ps (stepX e.x d) (stepY e.y d) = none) : way1 (nbP ps) k d st = st := by
  unfold way1 nbP
  rw [hu]
  simp only [he, hl]
theorem way1_old {ps : List Pt} {k d u v : Nat} {st : WaySt} {e : Pt} {s : Int} (hu : st.1[k]? = some u) (he : ps[u]? = some e) (hl : idxP ps (stepX e.x d) (stepY e.y d) = some v) (hv : st.2.2[v]? = some s) (hs : s ≠ -1) : way1 (nbP ps) k d st = st := by
  unfold way1 nbP
  rw [hu]
  simp only [he, hl, hv]
  rw [if_neg (fun e => hs (by injection e))]
theorem way1_new {ps : List Pt} {k d u v : Nat} {st : WaySt} {e : Pt} {s : Int} (hu : st.1[k]? = some u) (he : ps[u]? = some e) (hl : idxP ps (stepX e.x d) (stepY e.y d) = some v) (hv : st.2.2[v]? = some (-1)) (hs : st.2.2[u]? = some s) : way1 (nbP ps) k d st = (st.1 ++ [v], st.2.1.set v (backI d), st.2.2.set v (s + 1)) := by
  unfold way1 nbP
  rw [hu]
  simp only [he, hl, hv, hs]
  rfl
theorem nbP_back {ps : List Pt} (h : Shp ps) {u d v : Nat} {e : Pt} (hu : ps[u]? = some e) (hd : d < 4) (hv : idxP ps (stepX e.x d) (stepY e.y d) = some v) : nbP ps v ((d + 2) % 4) = some u := by
  have hk := idxP_some hv
  unfold nbP
  rw [hk]
  simp only
  have hb : stepX (stepX e.x d) (((d + 2) % 4 : Nat) : Int) = e.x ∧ stepY (stepY e.y d) (((d + 2) % 4 : Nat) : Int) = e.y := by
    have : d = 0 ∨ d = 1 ∨ d = 2 ∨ d = 3 := by omega
    rcases this with rfl | rfl | rfl | rfl <;> simp [stepX, stepY]
  rw [hb.1, hb.2]
  exact h.idx hu
theorem oppN_back (d : Nat) (hd : d < 4) : (oppN d : Int) = backI d := by
  have : d = 0 ∨ d = 1 ∨ d = 2 ∨ d = 3 := by omega
  rcases this with rfl | rfl | rfl | rfl <;> rfl
end Go.Proofs.YtdcndhiidjgmaaaGreatDoor
