import Derived.Test.YtkppijcjmhkkkaaGAI
import Derived.Test.YtkppijcjmhkkkaaGAJ
import Derived.ArgAppend
import Derived.Maps.RangeWalk
import Derived.Test.YtkppijcjmhkkkaaGAK
import Derived.Test.YtkppijcjmhkkkaaGAB
import Derived.Test.YtkppijcjmhkkkaaGAR
import Derived.Deep.OwnRows
set_option linter.unusedSimpArgs false
set_option linter.unusedVariables false
/- Rows that are read from the front and appended at the end; maps from points to pointers that a call makes. -/




namespace Go.Proofs.Ytkppijcjmhkkkaa
open Go.RowKit Go.Shelf
open Go.Maps (Keyed)
set_option maxRecDepth 100000
/-- a row of a block of the call's own that begins at some place of it -/
def QRow (w : World) (base size : Nat) (v : Value) (n : Nat) (xs : List Value) : Prop :=
  xs.length = n * size ∧ ∃ g off cap, v = .slice (some ⟨g, off, none⟩) n cap ∧ base ≤ g ∧ g < w.heap.size ∧ n ≤ cap ∧ cap ≤ maxLen ∧
    (∀ j, j < cap * size → (w.cell? ⟨g, off + j, none⟩).isSome = true ∧ w.frozen? ⟨g, off + j, none⟩ = false) ∧ ∀ j u, xs[j]? = some u → w.cell? ⟨g, off + j, none⟩ = some u
section
variable {w w' : World} {base size n : Nat} {v : Value} {xs : List Value}
theorem QRow.of_own {e : TypeId} (h : w.ownsRow base e size v n xs) (hn : 0 < n) : QRow w base size v n xs := by
  refine ⟨h.1, ?_⟩
  rcases h.2 with ⟨_, h0⟩ | ⟨g, cap, cur, rfl, hb, hg, hnc, hcm, hcs, htake⟩
  · omega
  · have hf : ∀ j, w.frozen? ⟨g, j, none⟩ = false := fun j => by simp [World.frozen?, hg]
    refine ⟨g, 0, cap, rfl, hb, (Array.getElem?_eq_some_iff.1 hg).1, hnc, hcm, fun j hj => ⟨?_, hf _⟩, fun j u hu => ?_⟩
    · rw [Nat.zero_add, cell_of_row w g j cur e (0, 0) hg, Array.getElem?_eq_getElem (by rw [hcs]; exact hj)]; rfl
    · rw [Nat.zero_add, cell_of_row w g j cur e (0, 0) hg]
      rw [← htake, List.getElem?_take] at hu
      split at hu
      · simpa using hu
      · cases hu
theorem QRow.form (h : QRow w base size v n xs) : ∃ g off cap, v = .slice (some ⟨g, off, none⟩) n cap ∧ base ≤ g ∧ g < w.heap.size ∧ n ≤ cap := by
  obtain ⟨_, g, off, cap, h1, h2, h3, h4, _⟩ := h
  exact ⟨g, off, cap, h1, h2, h3, h4⟩
theorem QRow.lt (h : QRow w base size v n xs) : ∀ g, v.ownBlock = some g → base ≤ g ∧ g < w.heap.size := by
  obtain ⟨g, off, cap, rfl, h2, h3, _⟩ := h.form
  intro k hk
  simp [Value.ownBlock] at hk
  subst hk
  exact ⟨h2, h3⟩
theorem QRow.kept {row : Option Nat} (h : QRow w base size v n xs) (hg : w.grownBy w' row) (hne : v.ownBlock ≠ row) : QRow w' base size v n xs := by
  obtain ⟨h0, g, off, cap, rfl, h2, h3, h4, h5, h6, h7⟩ := h
  have hb := hg.block g h3 (by simpa [Value.ownBlock] using hne)
  refine ⟨h0, g, off, cap, rfl, h2, Nat.lt_of_lt_of_le h3 hg.size, h4, h5, fun j hj => ?_, fun j u hu => ?_⟩
  · rw [World.cell?_of_block (a := ⟨g, off + j, none⟩) hb, World.frozen?_of_block (a := ⟨g, off + j, none⟩) hb]
    exact h6 j hj
  · rw [World.cell?_of_block (a := ⟨g, off + j, none⟩) hb]
    exact h7 j u hu
theorem QRow.below (h : QRow w base size v n xs) (hb : Below w.heap.size w w') : QRow w' base size v n xs := by
  refine h.kept (grown_below hb none) ?_
  obtain ⟨g, off, cap, rfl, _⟩ := h.form
  simp [Value.ownBlock]
/-- the first -/
theorem QRow.head {g off cap : Nat} {x : Value} (h : QRow w base 1 (.slice (some ⟨g, off, none⟩) n cap) n (x :: xs)) : w.cell? ⟨g, off, none⟩ = some x := by
  obtain ⟨h0, g', off', cap', hv, h2, h3, h4, h5, h6, h7⟩ := h
  cases hv
  exact h7 0 x rfl
/-- all but the first -/
theorem QRow.pop {g off cap : Nat} {x : Value} (h : QRow w base 1 (.slice (some ⟨g, off, none⟩) (n + 1) cap) (n + 1) (x :: xs)) : QRow w base 1 (.slice (if cap = 1 then some ⟨g, off, none⟩ else some ⟨g, off + 1, none⟩) n (cap - 1)) n xs := by
  obtain ⟨h0, g', off', cap', hv, h2, h3, h4, h5, h6, h7⟩ := h
  cases hv
  simp only [List.length_cons, Nat.mul_one] at h0
  by_cases hc : cap = 1
  · subst hc
    obtain rfl : n = 0 := by omega
    obtain rfl : xs = [] := List.eq_nil_of_length_eq_zero (by omega)
    simp only [if_true]
    exact ⟨rfl, g, off, 0, rfl, h2, h3, Nat.le_refl _, Nat.zero_le _, fun j hj => by omega, fun j u hu => by simp at hu⟩
  · simp only [if_neg hc]
    refine ⟨by omega, g, off + 1, cap - 1, rfl, h2, h3, by omega, by omega, fun j hj => ?_, fun j u hu => ?_⟩
    · rw [Nat.add_assoc]; exact h6 (1 + j) (by omega)
    · rw [Nat.add_assoc, Nat.add_comm 1 j]; exact h7 (j + 1) u (by simpa using hu)
theorem gby_setCells (b : Nat) : ∀ (vs : List Value) (o : Nat) (w : World), w.grownBy (w.setCells b o vs) (some b)
  | [], o, w => ⟨rfl, rfl, rfl, Nat.le_refl _, fun _ _ _ => rfl⟩
  | v :: r, o, w => by
    have ih := gby_setCells b r (o + 1) (w.setCell ⟨b, o, none⟩ v)
    refine ⟨ih.os, ih.tape, ih.output, ?_, fun k hk hne => ?_⟩
    · have := ih.size
      rw [World.size_setCell] at this
      exact this
    rw [show w.setCells b o (v :: r) = (w.setCell ⟨b, o, none⟩ v).setCells b (o + 1) r from rfl, ih.block k (by simpa using hk) hne]
    exact Below.heap_setCell _ _ _ _ (fun e => hne (by rw [e]))
end
section
variable {P : Program} {w : World}
theorem run_append_q (base : Nat) (t ty e : TypeId) (i : TypeInfo) (z : Value) (size bytes : Nat) (ht : P.underlying t = some (.slice e)) (hi : P.info? e = some i) (hz : i.zero = some z)
    (hsize : i.size = size) (hby : i.bytes = bytes) (hzs : z.cells.size = size) (hsz : 0 < size) (v : Value) (n : Nat) (xs : List Value) (hq : QRow w base size v n xs)
    (a : Addr) (m c : Nat) (news : List Value) (hl : news.length = m * size) (hnews : ∀ j u, news[j]? = some u → w.cell? (a.add j) = some u) (h1 : ∀ u ∈ news, u.oneCell' = true) (hm : 0 < m)
    (h63 : n + m ≤ maxLen) (hbytes : (n + m) * bytes ≤ 140737488355328) (hbase : base ≤ w.heap.size) :
    ∃ v' w', (Builtin.append_ #[t, t] ty #[v, .slice (some a) m c]).run P w = .ok v' w' ∧ QRow w' base size v' (n + m) (xs ++ news) ∧ w.grownBy w' v.ownBlock ∧ (v'.ownBlock = v.ownBlock ∨ v'.ownBlock = some w.heap.size) := by
  obtain ⟨h0, g, off, cap, rfl, h2, h3, h4, h5, h6, h7⟩ := hq
  by_cases hr : n + m ≤ cap
  · subst hsize
    have hfit : n * i.size + news.length ≤ cap * i.size := by rw [hl, ← Nat.add_mul]; exact Nat.mul_le_mul_right _ hr
    have hc : ∀ j, j < news.length → (w.cell? ⟨g, off + n * i.size + j, none⟩).isSome = true ∧ w.frozen? ⟨g, off + n * i.size + j, none⟩ = false := fun j hj => by
      rw [Nat.add_assoc]; exact h6 (n * i.size + j) (by omega)
    have hrun := run_append_room_cells (P := P) w t ty e i ht hi g off n cap a m c news hl hnews h1 hr (fun j hj => (hc j hj).1) (fun j hj => (hc j hj).2)
    have hg := gby_setCells g news (off + n * i.size) w
    refine ⟨_, _, hrun, ⟨by rw [List.length_append, h0, hl, Nat.add_mul], g, off, cap, rfl, h2, Nat.lt_of_lt_of_le h3 hg.size, hr, h5, fun j hj => ⟨?_, ?_⟩, fun j u hu => ?_⟩, hg, .inl rfl⟩
    · by_cases hjn : n * i.size ≤ j ∧ j < n * i.size + news.length
      · have := World.cell?_setCells_in g news (off + n * i.size) w (fun j hj => (hc j hj).1) (j - n * i.size) (by omega)
        rw [show off + n * i.size + (j - n * i.size) = off + j by omega] at this
        rw [this]; rfl
      · rw [World.cell?_setCells_out g news (off + n * i.size) w ⟨g, off + j, none⟩ (fun _ _ => by show off + j < _ ∨ _ ≤ off + j; omega)]
        exact (h6 j hj).1
    · rw [World.frozen?_setCells]; exact (h6 j hj).2
    · by_cases hjx : j < xs.length
      · rw [List.getElem?_append_left hjx] at hu
        rw [World.cell?_setCells_out g news (off + n * i.size) w ⟨g, off + j, none⟩ (fun _ _ => .inl (by show off + j < _; omega))]
        exact h7 j u hu
      · rw [List.getElem?_append_right (by omega)] at hu
        have hjl : j - xs.length < news.length := (List.getElem?_eq_some_iff.1 hu).1
        have := World.cell?_setCells_in g news (off + n * i.size) w (fun j hj => (hc j hj).1) (j - xs.length) hjl
        rw [show off + n * i.size + (j - xs.length) = off + j by omega] at this
        rw [this, ← hu, List.getElem?_eq_getElem hjl]
  · obtain ⟨v', w', hrun, r1, r2⟩ := run_append_arg_grows (P := P) w t ty e i z size bytes ht hi hz hsize hby hzs hsz ⟨g, off, none⟩ n cap xs h0 (fun j u hu => by rw [Addr.add_lit]; exact h7 j u hu) a m c news hl hnews (by omega) h63 hbytes
    have hq := QRow.of_own r1 (by omega)
    refine ⟨v', w', hrun, ?_, r2.but _, .inr ?_⟩
    · obtain ⟨q0, g', off', cap', q1, q2, q3⟩ := hq
      exact ⟨q0, g', off', cap', q1, Nat.le_trans hbase q2, q3⟩
    · obtain ⟨b1, _⟩ := hq.form
      have hk : ∃ k, v'.ownBlock = some k := by
        obtain ⟨g', off', cap', e1, _⟩ := hq.form
        exact ⟨g', by rw [e1]; rfl⟩
      obtain ⟨k, hk⟩ := hk
      have := hq.lt k hk
      have hnew : k < w.heap.size + 1 := by
        have hs := r1.lt k hk
        have : w'.heap.size = w.heap.size + 1 := by
          have hr' := run_append_grow (P := P) w t ty e i z ht hi hz ⟨g, off, none⟩ n cap xs (by rw [hsize]; exact h0) (fun j u hu => by rw [Addr.add_lit]; exact h7 j u hu) a m c news (by rw [hsize]; exact hl) hnews (by omega) (by simp only [maxLen] at h63; omega) (growslice_fits (by omega) (by rw [hby]; exact hbytes))
          rw [hrun] at hr'
          injection hr' with _ hw
          rw [hw]; simp
        omega
      have : k = w.heap.size := by omega
      rw [hk, this]
theorem wpList_append_q {ops : Array Oper} {rest : List Oper} {o : Oper} {a : Act} {Q : Exit → Act → World → Prop} (hgd : o.guard = none) (s x : Operand) (t : TypeId)
    (ho : o.op = .call { callee := .builtin .append, args := #[s, x], argTypes := #[t, t] })
    (base : Nat) (e : TypeId) (i : TypeInfo) (z : Value) (size bytes : Nat) (ht : P.underlying t = some (.slice e)) (hi : P.info? e = some i) (hz : i.zero = some z)
    (hsize : i.size = size) (hby : i.bytes = bytes) (hzs : z.cells.size = size) (hsz : 0 < size)
    (v : Value) (n : Nat) (xs : List Value) (hs : a.eval s = v) (hq : QRow w base size v n xs)
    (ad : Addr) (m c : Nat) (news : List Value) (hx : a.eval x = .slice (some ad) m c) (hl : news.length = m * size) (hnews : ∀ j u, news[j]? = some u → w.cell? (ad.add j) = some u) (h1 : ∀ u ∈ news, u.oneCell' = true) (hm : 0 < m)
    (h63 : n + m ≤ maxLen) (hbytes : (n + m) * bytes ≤ 140737488355328) (hbase : base ≤ w.heap.size)
    (h : ∀ v' w', QRow w' base size v' (n + m) (xs ++ news) → w.grownBy w' v.ownBlock → (v'.ownBlock = v.ownBlock ∨ v'.ownBlock = some w.heap.size) → wpList P ops Q rest (a.put o.dst v') w') :
    wpList P ops Q (o :: rest) a w := by
  refine wpList_plain hgd fun K hK => ?_
  obtain ⟨v', w', hr, h2, h3, h4⟩ := run_append_q (P := P) base t o.type e i z size bytes ht hi hz hsize hby hzs hsz v n xs hq ad m c news hl hnews h1 hm h63 hbytes hbase
  unfold Oper.wp execOp
  simp only [ho, resolve, invoke, builtin, Sem.run_bind, Sem.run_pure, Result.andThen_ok, List.map_toArray, List.map_cons, List.map_nil, hs, hx, hr]
  exact hK _ _ (h v' w' h2 h3 h4)
end
/-- the pointer to a block, or nil -/
def ptrV (o : Option Nat) : Value := .pointer (o.map fun g => ⟨g, 0, none⟩)
def ptrI : Option Nat → Int
  | none => -1
  | some g => (g : Int)
theorem ptrI_inj {a b : Option Nat} (h : ptrI a = ptrI b) : a = b := by
  cases a <;> cases b <;> simp [ptrI] at h ⊢ <;> omega
/-- how a pointer to a block reads: by the block's number -/
def ptrElem (v : Value) : Option (DataW Unit × List MemPlace) := match v with
  | .pointer none => some (.lit (.int .i64 (-1)), [])
  | .pointer (some ⟨g, 0, none⟩) => some (.lit (.int .i64 (g : Int)), [])
  | _ => none
theorem ptrElem_mk (o : Option Nat) : ptrElem (ptrV o) = some (.lit (.int .i64 (ptrI o)), []) := by cases o <;> rfl
theorem ptrElem_inv (v : Value) (y : DataW Unit × List MemPlace) (h : ptrElem v = some y) : ∃ o : Option Nat, v = ptrV o ∧ y = (.lit (.int .i64 (ptrI o)), []) := by
  unfold ptrElem at h
  split at h
  · injection h with h; exact ⟨none, rfl, h.symm⟩
  · rename_i g; injection h with h; exact ⟨some g, rfl, h.symm⟩
  · cases h
/-- block b maps points to pointers: M; at most n were laid in -/
def TMap (w : World) (b n : Nat) (M : Int → Int → Option Nat) : Prop :=
  ∃ D : DataW Unit, w.ownsMap Try.prog 49 ptrElem b n D ∧ (∀ x y, W64 x → W64 y → Maps.has D (pkey x y) = (M x y).isSome ∧ D.atKey (pkey x y) (.lit (.int .i64 (-1))) = .lit (.int .i64 (ptrI (M x y)))) ∧
    ∀ kl, Maps.has D kl = true → ∃ x y, W64 x ∧ W64 y ∧ kl = pkey x y
section
variable {w w' : World} {b n : Nat} {M M' : Int → Int → Option Nat}
theorem TMap.made (w : World) : TMap (w.alloc (.map #[] 0)) w.heap.size 0 (fun _ _ => none) :=
  ⟨_, World.ownsMap_made _ _ _ _, fun x y _ _ => ⟨by simp [Maps.has], WideAt.atKey_none _ (fun p hp => by simp at hp)⟩, fun kl h => by simp [Maps.has] at h⟩
theorem TMap.lt (h : TMap w b n M) : b < w.heap.size := by
  obtain ⟨D, h, _⟩ := h
  exact h.lt
theorem TMap.block (h : TMap w b n M) (hb : w'.heap[b]? = w.heap[b]?) : TMap w' b n M := by
  obtain ⟨D, ⟨es, clock, hh, r⟩, h2⟩ := h
  exact ⟨D, ⟨es, clock, hb.trans hh, r⟩, h2⟩
theorem TMap.below (h : TMap w b n M) (hb : Below w.heap.size w w') : TMap w' b n M := h.block (hb.block b h.lt)
theorem TMap.kept {row : Option Nat} (h : TMap w b n M) (hg : w.grownBy w' row) (hne : some b ≠ row) : TMap w' b n M := h.block (hg.block b h.lt hne)
theorem TMap.say (h : TMap w b n M) (hS : ∀ x y, M x y = M' x y) : TMap w b n M' := by
  obtain rfl : M = M' := funext fun x => funext fun y => hS x y
  exact h
theorem TMap.put_ {D : DataW Unit} {x y : Int} {g : Nat} (hx : W64 x) (hy : W64 y) (hD : Maps.IsMap D) (hat : ∀ x y, W64 x → W64 y → Maps.has D (pkey x y) = (M x y).isSome ∧ D.atKey (pkey x y) (.lit (.int .i64 (-1))) = .lit (.int .i64 (ptrI (M x y))))
    (hk : ∀ kl, Maps.has D kl = true → ∃ x y, W64 x ∧ W64 y ∧ kl = pkey x y)
    (h1 : w'.ownsMap Try.prog 49 ptrElem b n (D.put (pkey x y) (.lit (.int .i64 (ptrI (some g)))))) : TMap w' b n (fun i j => if i = x ∧ j = y then some g else M i j) := by
  refine ⟨_, h1, fun i j hi hj => ?_, fun kl hkl => ?_⟩
  · by_cases hij : i = x ∧ j = y
    · obtain ⟨rfl, rfl⟩ := hij
      have hkl := pt_keyed.key (keyOf_pt hi hj)
      simp only [and_self, if_true]
      exact ⟨Maps.has_put_same hD hkl _, Maps.atKey_put_same hD hkl _ _⟩
    · have hne : pkey i j ≠ pkey x y := fun e => hij (pkey_inj hi hj hx hy e)
      simp only [if_neg hij]
      rw [Maps.has_put_other hne, Maps.atKey_put_other hne]
      exact hat i j hi hj
  · by_cases he : kl = pkey x y
    · exact ⟨x, y, hx, hy, he⟩
    · rw [Maps.has_put_other he] at hkl
      exact hk kl hkl
end
section
variable {ops : Array Oper} {rest : List Oper} {o : Oper} {a : Act} {Q : Exit → Act → World → Prop}
end
end Go.Proofs.Ytkppijcjmhkkkaa
/- Walks: the program reaches the points of a shape from one of them. -/


namespace Go.Proofs.Ytkppijcjmhkkkaa
open Go.RowKit Go.Shelf
attribute [local go_sem] BelowBy.cell BelowBy.cell_drew stillUpon givesUpon

theorem Shp.sortedS {ps : List Pt} (h : Shp ps) : SortS ps := by
  unfold SortS
  rw [List.pairwise_iff_getElem]
  exact fun i j hi hj hij => h.sorted i j _ _ hij (List.getElem?_eq_getElem hi) (List.getElem?_eq_getElem hj)
theorem idxP_mem {ps : List Pt} {x y : Int} {v : Nat} (h : idxP ps x y = some v) : decide ((⟨x, y⟩ : Pt) ∈ ps) = true :=
  decide_eq_true (List.mem_of_getElem? (idxP_some h))
theorem idxP_off {ps : List Pt} {x y : Int} (h : idxP ps x y = none) : decide ((⟨x, y⟩ : Pt) ∈ ps) = false :=
  decide_eq_false fun hm => by
    obtain ⟨k, hk⟩ := List.mem_iff_getElem?.1 hm
    exact idxP_none h k hk
abbrev WaySt := List Nat × List Int × List Int
section
variable {w w' : World} {B : Nat} {ps : List Pt} {st : WaySt} {T : Nat → Option Nat}
end
/-- what the map of the trips says -/
def tripM (ps : List Pt) (T : Nat → Option Nat) (x y : Int) : Option Nat := (idxP ps x y).bind T
theorem tripM_none {ps : List Pt} {T : Nat → Option Nat} {x y : Int} (h : idxP ps x y = none) : tripM ps T x y = none := by unfold tripM; rw [h]; rfl
theorem tripM_at {ps : List Pt} {T : Nat → Option Nat} {x y : Int} {v : Nat} (h : idxP ps x y = some v) : tripM ps T x y = T v := by unfold tripM; rw [h]; rfl
theorem tripM_put {ps : List Pt} (hS : Shp ps) {T : Nat → Option Nat} {v g : Nat} {e : Pt} (he : ps[v]? = some e) (x y : Int) : (if x = e.x ∧ y = e.y then some g else tripM ps T x y) = tripM ps (fun u => if u = v then some g else T u) x y := by
  unfold tripM
  by_cases hxy : x = e.x ∧ y = e.y
  · obtain ⟨rfl, rfl⟩ := hxy
    rw [hS.idx he]
    simp
  · rw [if_neg hxy]
    cases hi : idxP ps x y with
    | none => rfl
    | some k =>
      have hk : k ≠ v := fun e' => by
        subst e'
        have := idxP_some hi
        rw [he] at this
        injection this with this
        subst this
        exact hxy ⟨rfl, rfl⟩
      simp [hk]
theorem way1_none {ps : List Pt} {k d u : Nat} {st : WaySt} {e : Pt} (hu : st.1[k]? = some u) (he : ps[u]? = some e) (hl : idxP ps (stepX e.x d) (stepY e.y d) = none) : way1 (nbP ps) k d st = st := by
  unfold way1 nbP
  rw [hu]
  simp only [he, hl]
theorem way1_old {ps : List Pt} {k d u v : Nat} {st : WaySt} {e : Pt} {s : Int} (hu : st.1[k]? = some u) (he : ps[u]? = some e) (hl : idxP ps (stepX e.x d) (stepY e.y d) = some v) (hv : st.2.2[v]? = some s) (hs : s ≠ -1) : way1 (nbP ps) k d st = st := by
  unfold way1 nbP
  rw [hu]
  simp only [he, hl, hv]
  rw [if_neg (fun e => hs (by injection e))]
theorem way1_new {ps : List Pt} {k d u v : Nat} {st : WaySt} {e : Pt} {s : Int} (hu : st.1[k]? = some u) (he : ps[u]? = some e) (hl : idxP ps (stepX e.x d) (stepY e.y d) = some v) (hv : st.2.2[v]? = some (-1)) (hs : st.2.2[u]? = some s) : way1 (nbP ps) k d st = (st.1 ++ [v], st.2.1.set v (backI d), st.2.2.set v (s + 1)) := by
  unfold way1 nbP
  rw [hu]
  simp only [he, hl, hv, hs]
  rfl
theorem nbP_back {ps : List Pt} (h : Shp ps) {u d v : Nat} {e : Pt} (hu : ps[u]? = some e) (hd : d < 4) (hv : idxP ps (stepX e.x d) (stepY e.y d) = some v) : nbP ps v ((d + 2) % 4) = some u := by
  have hk := idxP_some hv
  unfold nbP
  rw [hk]
  simp only
  have hb : stepX (stepX e.x d) (((d + 2) % 4 : Nat) : Int) = e.x ∧ stepY (stepY e.y d) (((d + 2) % 4 : Nat) : Int) = e.y := by
    have : d = 0 ∨ d = 1 ∨ d = 2 ∨ d = 3 := by omega
    rcases this with rfl | rfl | rfl | rfl <;> simp [stepX, stepY]
  rw [hb.1, hb.2]
  exact h.idx hu
theorem oppN_back (d : Nat) (hd : d < 4) : (oppN d : Int) = backI d := by
  have : d = 0 ∨ d = 1 ∨ d = 2 ∨ d = 3 := by omega
  rcases this with rfl | rfl | rfl | rfl <;> rfl
end Go.Proofs.Ytkppijcjmhkkkaa
/- Boxes of points: a block that holds one point of the call's own; the blocks that a region leaves alone. -/



namespace Go.Proofs.Ytkppijcjmhkkkaa
open Go.RowKit
/-- block b is a box of the point (x, y) -/
def PtB (w : World) (b : Nat) (x y : Int) : Prop := w.rowIs b 49 2 (fun i => if i = 0 then .int .i64 x else .int .i64 y)
section
variable {w w' : World} {b : Nat} {x y : Int}
theorem PtB.c0 (h : PtB w b x y) : w.cell? ⟨b, 0, none⟩ = some (.int .i64 x) := World.rowIs.cell h (i := 0) (by decide)
theorem PtB.c1 (h : PtB w b x y) : w.cell? ⟨b, 1, none⟩ = some (.int .i64 y) := World.rowIs.cell h (i := 1) (by decide)
theorem PtB.f0 (h : PtB w b x y) : w.frozen? ⟨b, 0, none⟩ = false := World.rowIs.frozen h 0
theorem PtB.f1 (h : PtB w b x y) : w.frozen? ⟨b, 1, none⟩ = false := World.rowIs.frozen h 1
theorem PtB.lt (h : PtB w b x y) : b < w.heap.size := World.rowIs.lt h
theorem PtB.of_block (h : PtB w b x y) (e : w'.heap[b]? = w.heap[b]?) : PtB w' b x y := World.rowIs.of_block h e
theorem PtB.new (w : World) (x y : Int) : PtB (w.alloc (.cells #[.int .i64 x, .int .i64 y] 49)) w.heap.size x y :=
  World.rowIs_alloc w _ _ _ (fun i hi => by
    match i, hi with
    | 0, _ => rfl
    | 1, _ => rfl)
theorem PtB.ofHeap (h : w.heap[b]? = some (.cells #[.int .i64 x, .int .i64 y] 49 (0, 0))) : PtB w b x y :=
  ⟨_, h, rfl, fun i hi => by
    match i, hi with
    | 0, _ => rfl
    | 1, _ => rfl⟩
theorem PtB.al (h : PtB w b x y) (o : Obj) : PtB (w.alloc o) b x y := World.rowIs.alloc h o
theorem PtB.dr (h : PtB w b x y) : PtB w.drew b x y := h
theorem PtB.below (h : PtB w b x y) (hb : Below w.heap.size w w') : PtB w' b x y := h.of_block (hb.block b h.lt)
theorem PtB.put (h : PtB w b x y) (u v : Int) : PtB ((w.setCell ⟨b, 0, none⟩ (.int .i64 u)).setCell ⟨b, 1, none⟩ (.int .i64 v)) b u v := by
  refine World.rowIs.congr ((World.rowIs.set h 0 (.int .i64 u)).set 1 (.int .i64 v)) ?_
  intro i hi
  match i, hi with
  | 0, _ => rfl
  | 1, _ => rfl
theorem PtB.far (h : PtB w b x y) {c j : Nat} (hn : b ≠ c) (v : Value) : PtB (w.setCell ⟨c, j, none⟩ v) b x y := World.rowIs.setOther h hn v
theorem PtB.far2 (h : PtB w b x y) {c : Nat} (hn : b ≠ c) (u v : Value) : PtB ((w.setCell ⟨c, 0, none⟩ u).setCell ⟨c, 1, none⟩ v) b x y := (h.far hn u).far hn v
end
/-- a world that is W0 but for the blocks out of S -/
structure Js (S : Nat → Prop) (W0 W : World) : Prop where
  size : W0.heap.size ≤ W.heap.size
  keep : ∀ b, S b → b < W0.heap.size → W.heap[b]? = W0.heap[b]?
section
variable {S : Nat → Prop} {W0 W : World}
theorem Js.refl (S : Nat → Prop) (W : World) : Js S W W := ⟨Nat.le_refl _, fun _ _ _ => rfl⟩
theorem Js.al (h : Js S W0 W) (o : Obj) : Js S W0 (W.alloc o) := ⟨Nat.le_trans h.size (by simp), fun b hs hb => (Below.heap_alloc _ _ _ (Nat.lt_of_lt_of_le hb h.size)).trans (h.keep b hs hb)⟩
theorem Js.set (h : Js S W0 W) {p j : Nat} (hp : ∀ b, S b → b < W0.heap.size → b ≠ p) (u : Value) : Js S W0 (W.setCell ⟨p, j, none⟩ u) :=
  ⟨by simp only [World.size_setCell]; exact h.size, fun b hs hb => (Below.heap_setCell _ _ _ _ (hp b hs hb)).trans (h.keep b hs hb)⟩
theorem Js.cell (h : Js S W0 W) {b : Nat} (o : Nat) (hs : S b) (hb : b < W0.heap.size) : W.cell? ⟨b, o, none⟩ = W0.cell? ⟨b, o, none⟩ := World.cell?_of_block (a := ⟨b, o, none⟩) (h.keep b hs hb)
end
end Go.Proofs.Ytkppijcjmhkkkaa
