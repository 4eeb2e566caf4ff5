import Derived.Test.YtpnilnpgiampgaaKQ
import Derived.Test.YtpnilnpgiampgaaN1
import Derived.ArgAppend
import Derived.Maps.RangeWalk
import Derived.Test.YtpnilnpgiampgaaW82
import Derived.Test.YtpnilnpgiampgaaIRes
set_option linter.unusedSimpArgs false
set_option linter.unusedVariables false
/- Rows that are read from the front and appended at the end; maps from points to pointers that a call makes. -/




namespace Go.Proofs.Ytpnilnpgiampgaa
open Go.RowKit Go.Shelf
open Go.Maps (Keyed)
set_option maxRecDepth 100000
/-- a row of a block of the call's own that begins at some place of it -/
def QRow (w : World) (base size : Nat) (v : Value) (n : Nat) (xs : List Value) : Prop :=
  xs.length = n * size ∧ ∃ g off cap, v = .slice (some ⟨g, off, none⟩) n cap ∧ base ≤ g ∧ g < w.heap.size ∧ n ≤ cap ∧ cap ≤ maxLen ∧
    (∀ j, j < cap * size → (w.cell? ⟨g, off + j, none⟩).isSome = true ∧ w.frozen? ⟨g, off + j, none⟩ = false) ∧ ∀ j u, xs[j]? = some u → w.cell? ⟨g, off + j, none⟩ = some u
section
variable {w w' : World} {base size n : Nat} {v : Value} {xs : List Value}
theorem QRow.of_own {e : TypeId} (h : w.ownsRow base e size v n xs) (hn : 0 < n) : QRow w base size v n xs := by
  refine ⟨h.1, ?_⟩
  rcases h.2 with ⟨_, h0⟩ | ⟨g, cap, cur, rfl, hb, hg, hnc, hcm, hcs, htake⟩
  · omega
  · have hf : ∀ j, w.frozen? ⟨g, j, none⟩ = false := fun j => by simp [World.frozen?, hg]
    refine ⟨g, 0, cap, rfl, hb, (Array.getElem?_eq_some_iff.1 hg).1, hnc, hcm, fun j hj => ⟨?_, hf _⟩, fun j u hu => ?_⟩
    · rw [Nat.zero_add, cell_of_row w g j cur e (0, 0) hg, Array.getElem?_eq_getElem (by rw [hcs]; exact hj)]; rfl
    · rw [Nat.zero_add, cell_of_row w g j cur e (0, 0) hg]
      rw [← htake, List.getElem?_take] at hu
      split at hu
      · simpa using hu
      · cases hu
theorem QRow.form (h : QRow w base size v n xs) : ∃ g off cap, v = .slice (some ⟨g, off, none⟩) n cap ∧ base ≤ g ∧ g < w.heap.size ∧ n ≤ cap := by
  obtain ⟨_, g, off, cap, h1, h2, h3, h4, _⟩ := h
  exact ⟨g, off, cap, h1, h2, h3, h4⟩
theorem QRow.lt (h : QRow w base size v n xs) : ∀ g, v.ownBlock = some g → base ≤ g ∧ g < w.heap.size := by
  obtain ⟨g, off, cap, rfl, h2, h3, _⟩ := h.form
  intro k hk
  simp [Value.ownBlock] at hk
  subst hk
  exact ⟨h2, h3⟩
theorem QRow.kept {row : Option Nat} (h : QRow w base size v n xs) (hg : w.grownBy w' row) (hne : v.ownBlock ≠ row) : QRow w' base size v n xs := by
  obtain ⟨h0, g, off, cap, rfl, h2, h3, h4, h5, h6, h7⟩ := h
  have hb := hg.block g h3 (by simpa [Value.ownBlock] using hne)
  refine ⟨h0, g, off, cap, rfl, h2, Nat.lt_of_lt_of_le h3 hg.size, h4, h5, fun j hj => ?_, fun j u hu => ?_⟩
  · rw [World.cell?_of_block (a := ⟨g, off + j, none⟩) hb, World.frozen?_of_block (a := ⟨g, off + j, none⟩) hb]
    exact h6 j hj
  · rw [World.cell?_of_block (a := ⟨g, off + j, none⟩) hb]
    exact h7 j u hu
theorem QRow.below (h : QRow w base size v n xs) (hb : Below w.heap.size w w') : QRow w' base size v n xs := by
  refine h.kept (grown_below hb none) ?_
  obtain ⟨g, off, cap, rfl, _⟩ := h.form
  simp [Value.ownBlock]
/-- the first -/
theorem QRow.head {g off cap : Nat} {x : Value} (h : QRow w base 1 (.slice (some ⟨g, off, none⟩) n cap) n (x :: xs)) : w.cell? ⟨g, off, none⟩ = some x := by
  obtain ⟨h0, g', off', cap', hv, h2, h3, h4, h5, h6, h7⟩ := h
  cases hv
  exact h7 0 x rfl
/-- all but the first -/
theorem QRow.pop {g off cap : Nat} {x : Value} (h : QRow w base 1 (.slice (some ⟨g, off, none⟩) (n + 1) cap) (n + 1) (x :: xs)) : QRow w base 1 (.slice (if cap = 1 then some ⟨g, off, none⟩ else some ⟨g, off + 1, none⟩) n (cap - 1)) n xs := by
  obtain ⟨h0, g', off', cap', hv, h2, h3, h4, h5, h6, h7⟩ := h
  cases hv
  simp only [List.length_cons, Nat.mul_one] at h0
  by_cases hc : cap = 1
  · subst hc
    obtain rfl : n = 0 := by omega
    obtain rfl : xs = [] := List.eq_nil_of_length_eq_zero (by omega)
    simp only [if_true]
    exact ⟨rfl, g, off, 0, rfl, h2, h3, Nat.le_refl _, Nat.zero_le _, fun j hj => by omega, fun j u hu => by simp at hu⟩
  · simp only [if_neg hc]
    refine ⟨by omega, g, off + 1, cap - 1, rfl, h2, h3, by omega, by omega, fun j hj => ?_, fun j u hu => ?_⟩
    · rw [Nat.add_assoc]; exact h6 (1 + j) (by omega)
    · rw [Nat.add_assoc, Nat.add_comm 1 j]; exact h7 (j + 1) u (by simpa using hu)
theorem gby_setCells (b : Nat) : ∀ (vs : List Value) (o : Nat) (w : World), w.grownBy (w.setCells b o vs) (some b)
  | [], o, w => ⟨rfl, rfl, rfl, Nat.le_refl _, fun _ _ _ => rfl⟩
  | v :: r, o, w => by
    have ih := gby_setCells b r (o + 1) (w.setCell ⟨b, o, none⟩ v)
    refine ⟨ih.os, ih.tape, ih.output, ?_, fun k hk hne => ?_⟩
    · have := ih.size
      rw [World.size_setCell] at this
      exact this
    rw [show w.setCells b o (v :: r) = (w.setCell ⟨b, o, none⟩ v).setCells b (o + 1) r from rfl, ih.block k (by simpa using hk) hne]
    exact Below.heap_setCell _ _ _ _ (fun e => hne (by rw [e]))
end
section
variable {P : Program} {w : World}
theorem run_append_q (base : Nat) (t ty e : TypeId) (i : TypeInfo) (z : Value) (size bytes : Nat) (ht : P.underlying t = some (.slice e)) (hi : P.info? e = some i) (hz : i.zero = some z)
    (hsize : i.size = size) (hby : i.bytes = bytes) (hzs : z.cells.size = size) (hsz : 0 < size) (v : Value) (n : Nat) (xs : List Value) (hq : QRow w base size v n xs)
    (a : Addr) (m c : Nat) (news : List Value) (hl : news.length = m * size) (hnews : ∀ j u, news[j]? = some u → w.cell? (a.add j) = some u) (h1 : ∀ u ∈ news, u.oneCell' = true) (hm : 0 < m)
    (h63 : n + m ≤ maxLen) (hbytes : (n + m) * bytes ≤ 140737488355328) (hbase : base ≤ w.heap.size) :
    ∃ v' w', (Builtin.append_ #[t, t] ty #[v, .slice (some a) m c]).run P w = .ok v' w' ∧ QRow w' base size v' (n + m) (xs ++ news) ∧ w.grownBy w' v.ownBlock ∧ (v'.ownBlock = v.ownBlock ∨ v'.ownBlock = some w.heap.size) := by
  obtain ⟨h0, g, off, cap, rfl, h2, h3, h4, h5, h6, h7⟩ := hq
  by_cases hr : n + m ≤ cap
  · subst hsize
    have hfit : n * i.size + news.length ≤ cap * i.size := by rw [hl, ← Nat.add_mul]; exact Nat.mul_le_mul_right _ hr
    have hc : ∀ j, j < news.length → (w.cell? ⟨g, off + n * i.size + j, none⟩).isSome = true ∧ w.frozen? ⟨g, off + n * i.size + j, none⟩ = false := fun j hj => by
      rw [Nat.add_assoc]; exact h6 (n * i.size + j) (by omega)
    have hrun := run_append_room_cells (P := P) w t ty e i ht hi g off n cap a m c news hl hnews h1 hr (fun j hj => (hc j hj).1) (fun j hj => (hc j hj).2)
    have hg := gby_setCells g news (off + n * i.size) w
    refine ⟨_, _, hrun, ⟨by rw [List.length_append, h0, hl, Nat.add_mul], g, off, cap, rfl, h2, Nat.lt_of_lt_of_le h3 hg.size, hr, h5, fun j hj => ⟨?_, ?_⟩, fun j u hu => ?_⟩, hg, .inl rfl⟩
    · by_cases hjn : n * i.size ≤ j ∧ j < n * i.size + news.length
      · have := World.cell?_setCells_in g news (off + n * i.size) w (fun j hj => (hc j hj).1) (j - n * i.size) (by omega)
        rw [show off + n * i.size + (j - n * i.size) = off + j by omega] at this
        rw [this]; rfl
      · rw [World.cell?_setCells_out g news (off + n * i.size) w ⟨g, off + j, none⟩ (fun _ _ => by show off + j < _ ∨ _ ≤ off + j; omega)]
        exact (h6 j hj).1
    · rw [World.frozen?_setCells]; exact (h6 j hj).2
    · by_cases hjx : j < xs.length
      · rw [List.getElem?_append_left hjx] at hu
        rw [World.cell?_setCells_out g news (off + n * i.size) w ⟨g, off + j, none⟩ (fun _ _ => .inl (by show off + j < _; omega))]
        exact h7 j u hu
      · rw [List.getElem?_append_right (by omega)] at hu
        have hjl : j - xs.length < news.length := (List.getElem?_eq_some_iff.1 hu).1
        have := World.cell?_setCells_in g news (off + n * i.size) w (fun j hj => (hc j hj).1) (j - xs.length) hjl
        rw [show off + n * i.size + (j - xs.length) = off + j by omega] at this
        rw [this, ← hu, List.getElem?_eq_getElem hjl]
  · obtain ⟨v', w', hrun, r1, r2⟩ := run_append_arg_grows (P := P) w t ty e i z size bytes ht hi hz hsize hby hzs hsz ⟨g, off, none⟩ n cap xs h0 (fun j u hu => by rw [Addr.add_lit]; exact h7 j u hu) a m c news hl hnews (by omega) h63 hbytes
    have hq := QRow.of_own r1 (by omega)
    refine ⟨v', w', hrun, ?_, r2.but _, .inr ?_⟩
    · obtain ⟨q0, g', off', cap', q1, q2, q3⟩ := hq
      exact ⟨q0, g', off', cap', q1, Nat.le_trans hbase q2, q3⟩
    · obtain ⟨b1, _⟩ := hq.form
      have hk : ∃ k, v'.ownBlock = some k := by
        obtain ⟨g', off', cap', e1, _⟩ := hq.form
        exact ⟨g', by rw [e1]; rfl⟩
      obtain ⟨k, hk⟩ := hk
      have := hq.lt k hk
      have hnew : k < w.heap.size + 1 := by
        have hs := r1.lt k hk
        have : w'.heap.size = w.heap.size + 1 := by
          have hr' := run_append_grow (P := P) w t ty e i z ht hi hz ⟨g, off, none⟩ n cap xs (by rw [hsize]; exact h0) (fun j u hu => by rw [Addr.add_lit]; exact h7 j u hu) a m c news (by rw [hsize]; exact hl) hnews (by omega) (by simp only [maxLen] at h63; omega) (growslice_fits (by omega) (by rw [hby]; exact hbytes))
          rw [hrun] at hr'
          injection hr' with _ hw
          rw [hw]; simp
        omega
      have : k = w.heap.size := by omega
      rw [hk, this]
theorem wpList_append_q {ops : Array Oper} {rest : List Oper} {o : Oper} {a : Act} {Q : Exit → Act → World → Prop} (hgd : o.guard = none) (s x : Operand) (t : TypeId)
    (ho : o.op = .call { callee := .builtin .append, args := #[s, x], argTypes := #[t, t] })
    (base : Nat) (e : TypeId) (i : TypeInfo) (z : Value) (size bytes : Nat) (ht : P.underlying t = some (.slice e)) (hi : P.info? e = some i) (hz : i.zero = some z)
    (hsize : i.size = size) (hby : i.bytes = bytes) (hzs : z.cells.size = size) (hsz : 0 < size)
    (v : Value) (n : Nat) (xs : List Value) (hs : a.eval s = v) (hq : QRow w base size v n xs)
    (ad : Addr) (m c : Nat) (news : List Value) (hx : a.eval x = .slice (some ad) m c) (hl : news.length = m * size) (hnews : ∀ j u, news[j]? = some u → w.cell? (ad.add j) = some u) (h1 : ∀ u ∈ news, u.oneCell' = true) (hm : 0 < m)
    (h63 : n + m ≤ maxLen) (hbytes : (n + m) * bytes ≤ 140737488355328) (hbase : base ≤ w.heap.size)
    (h : ∀ v' w', QRow w' base size v' (n + m) (xs ++ news) → w.grownBy w' v.ownBlock → (v'.ownBlock = v.ownBlock ∨ v'.ownBlock = some w.heap.size) → wpList P ops Q rest (a.put o.dst v') w') :
    wpList P ops Q (o :: rest) a w := by
  refine wpList_plain hgd fun K hK => ?_
  obtain ⟨v', w', hr, h2, h3, h4⟩ := run_append_q (P := P) base t o.type e i z size bytes ht hi hz hsize hby hzs hsz v n xs hq ad m c news hl hnews h1 hm h63 hbytes hbase
  unfold Oper.wp execOp
  simp only [ho, resolve, invoke, builtin, Sem.run_bind, Sem.run_pure, Result.andThen_ok, List.map_toArray, List.map_cons, List.map_nil, hs, hx, hr]
  exact hK _ _ (h v' w' h2 h3 h4)
end
/-- the pointer to a block, or nil -/
def ptrV (o : Option Nat) : Value := .pointer (o.map fun g => ⟨g, 0, none⟩)
def ptrI : Option Nat → Int
  | none => -1
  | some g => (g : Int)
theorem ptrI_inj {a b : Option Nat} (h : ptrI a = ptrI b) : a = b := by
  cases a <;> cases b <;> simp [ptrI] at h ⊢ <;> omega
/-- how a pointer to a block reads: by the block's number -/
def ptrElem (v : Value) : Option (DataW Unit × List MemPlace) := match v with
  | .pointer none => some (.lit (.int .i64 (-1)), [])
  | .pointer (some ⟨g, 0, none⟩) => some (.lit (.int .i64 (g : Int)), [])
  | _ => none
theorem ptrElem_mk (o : Option Nat) : ptrElem (ptrV o) = some (.lit (.int .i64 (ptrI o)), []) := by cases o <;> rfl
theorem ptrElem_inv (v : Value) (y : DataW Unit × List MemPlace) (h : ptrElem v = some y) : ∃ o : Option Nat, v = ptrV o ∧ y = (.lit (.int .i64 (ptrI o)), []) := by
  unfold ptrElem at h
  split at h
  · injection h with h; exact ⟨none, rfl, h.symm⟩
  · rename_i g; injection h with h; exact ⟨some g, rfl, h.symm⟩
  · cases h
/-- block b maps points to pointers: M; at most n were laid in -/
def TMap (w : World) (b n : Nat) (M : Int → Int → Option Nat) : Prop :=
  ∃ D : DataW Unit, w.ownsMap Try.prog 60 ptrElem b n D ∧ (∀ x y, W64 x → W64 y → Maps.has D (pkey x y) = (M x y).isSome ∧ D.atKey (pkey x y) (.lit (.int .i64 (-1))) = .lit (.int .i64 (ptrI (M x y)))) ∧
    ∀ kl, Maps.has D kl = true → ∃ x y, W64 x ∧ W64 y ∧ kl = pkey x y
section
variable {w w' : World} {b n : Nat} {M M' : Int → Int → Option Nat}
theorem TMap.made (w : World) : TMap (w.alloc (.map #[] 0)) w.heap.size 0 (fun _ _ => none) :=
  ⟨_, World.ownsMap_made _ _ _ _, fun x y _ _ => ⟨by simp [Maps.has], WideAt.atKey_none _ (fun p hp => by simp at hp)⟩, fun kl h => by simp [Maps.has] at h⟩
theorem TMap.lt (h : TMap w b n M) : b < w.heap.size := by
  obtain ⟨D, h, _⟩ := h
  exact h.lt
theorem TMap.block (h : TMap w b n M) (hb : w'.heap[b]? = w.heap[b]?) : TMap w' b n M := by
  obtain ⟨D, ⟨es, clock, hh, r⟩, h2⟩ := h
  exact ⟨D, ⟨es, clock, hb.trans hh, r⟩, h2⟩
theorem TMap.below (h : TMap w b n M) (hb : Below w.heap.size w w') : TMap w' b n M := h.block (hb.block b h.lt)
theorem TMap.kept {row : Option Nat} (h : TMap w b n M) (hg : w.grownBy w' row) (hne : some b ≠ row) : TMap w' b n M := h.block (hg.block b h.lt hne)
theorem TMap.say (h : TMap w b n M) (hS : ∀ x y, M x y = M' x y) : TMap w b n M' := by
  obtain rfl : M = M' := funext fun x => funext fun y => hS x y
  exact h
theorem TMap.put_ {D : DataW Unit} {x y : Int} {g : Nat} (hx : W64 x) (hy : W64 y) (hD : Maps.IsMap D) (hat : ∀ x y, W64 x → W64 y → Maps.has D (pkey x y) = (M x y).isSome ∧ D.atKey (pkey x y) (.lit (.int .i64 (-1))) = .lit (.int .i64 (ptrI (M x y))))
    (hk : ∀ kl, Maps.has D kl = true → ∃ x y, W64 x ∧ W64 y ∧ kl = pkey x y)
    (h1 : w'.ownsMap Try.prog 60 ptrElem b n (D.put (pkey x y) (.lit (.int .i64 (ptrI (some g)))))) : TMap w' b n (fun i j => if i = x ∧ j = y then some g else M i j) := by
  refine ⟨_, h1, fun i j hi hj => ?_, fun kl hkl => ?_⟩
  · by_cases hij : i = x ∧ j = y
    · obtain ⟨rfl, rfl⟩ := hij
      have hkl := pt_keyed.key (keyOf_pt hi hj)
      simp only [and_self, if_true]
      exact ⟨Maps.has_put_same hD hkl _, Maps.atKey_put_same hD hkl _ _⟩
    · have hne : pkey i j ≠ pkey x y := fun e => hij (pkey_inj hi hj hx hy e)
      simp only [if_neg hij]
      rw [Maps.has_put_other hne, Maps.atKey_put_other hne]
      exact hat i j hi hj
  · by_cases he : kl = pkey x y
    · exact ⟨x, y, hx, hy, he⟩
    · rw [Maps.has_put_other he] at hkl
      exact hk kl hkl
end
section
variable {ops : Array Oper} {rest : List Oper} {o : Oper} {a : Act} {Q : Exit → Act → World → Prop}
theorem zero_tp (w : World) : (zeroValue 83).run Try.prog w = .ok (ptrV none) w := by kernel_rfl
theorem wpList_look_tmap (w : World) (hg : o.guard = none) (m k : Operand) (hop : o.op = Op.lookup 81 m k false) (b n : Nat) (M : Int → Int → Option Nat) (hm : a.eval m = .map (some b)) (h : TMap w b n M) (x y : Int) (hx : W64 x) (hy : W64 y) (hk : a.eval k = .agg #[.int .i64 x, .int .i64 y])
    (r : Option Nat) (hr : M x y = r) (hK : wpList Try.prog ops Q rest (a.put o.dst (ptrV r)) w) : wpList Try.prog ops Q (o :: rest) a w := by
  subst hr
  obtain ⟨D, hown, hat, _⟩ := h
  have hw : Region.wanted o (yielded ops a.tmps) = true := by simp [Region.wanted, hg]
  refine wpList_wanted hw fun K' hK' => ?_
  obtain ⟨v, ps, hrun, hv⟩ := hown.lookup pt_keyed Try.underlying81 (zero_tp w) (ptrElem_mk none) (keyOf_pt hx hy)
  rw [show ptrI none = -1 from rfl, (hat x y hx hy).2] at hv
  obtain ⟨o', rfl, hv'⟩ := ptrElem_inv v _ hv
  injection hv' with hv1
  injection hv1 with hv1
  injection hv1 with _ hv1
  obtain rfl := ptrI_inj hv1
  unfold Oper.wp
  simp [execOp, hop, hm, hk, hrun, Result.andThen]
  exact hK' _ _ hK
theorem wpList_put_tmap (w : World) (hg : o.guard = none) (m k u : Operand) (hop : o.op = Op.mapUpdate 81 m k u ∨ o.op = Op.insert 81 m k u) (b n : Nat) (M : Int → Int → Option Nat) (hm : a.eval m = .map (some b)) (h : TMap w b n M) (x y : Int) (hx : W64 x) (hy : W64 y) (g : Nat) (hn : n < maxLen) (hk : a.eval k = .agg #[.int .i64 x, .int .i64 y]) (hu : a.eval u = .pointer (some ⟨g, 0, none⟩))
    (hK : ∀ w', TMap w' b (n + 1) (fun i j => if i = x ∧ j = y then some g else M i j) → w.grownBy w' (some b) → wpList Try.prog ops Q rest (a.put o.dst undef) w') : wpList Try.prog ops Q (o :: rest) a w := by
  obtain ⟨D, hown, hat, hks⟩ := h
  have hw : Region.wanted o (yielded ops a.tmps) = true := by simp [Region.wanted, hg]
  refine wpList_wanted hw fun K' hK' => ?_
  obtain ⟨w', hrun, h1, h2⟩ := hown.update pt_keyed Try.underlying81 hn (keyOf_pt hx hy) (ptrElem_mk (some g))
  have hrun' : (Instr.mapUpdate 81 (.map (some b)) (.agg #[.int .i64 x, .int .i64 y]) (.pointer (some ⟨g, 0, none⟩))).run Try.prog w = .ok () w' := hrun
  rcases hop with hop | hop
  · unfold Oper.wp
    simp [execOp, hop, hm, hk, hu, hrun', Result.andThen]
    exact hK' _ _ (hK w' (TMap.put_ hx hy hown.isMap hat hks h1) h2)
  · unfold Oper.wp
    simp [execOp, hop, hm, hk, hu, hrun', Result.andThen]
    exact hK' _ _ (hK w' (TMap.put_ hx hy hown.isMap hat hks h1) h2)
end
end Go.Proofs.Ytpnilnpgiampgaa
/- Walks: the program reaches the points of a shape from one of them. -/


namespace Go.Proofs.Ytpnilnpgiampgaa
open Go.RowKit Go.Shelf
attribute [local go_sem] BelowBy.cell BelowBy.cell_drew stillUpon givesUpon

theorem Shp.sortedS {ps : List Pt} (h : Shp ps) : SortS ps := by
  unfold SortS
  rw [List.pairwise_iff_getElem]
  exact fun i j hi hj hij => h.sorted i j _ _ hij (List.getElem?_eq_getElem hi) (List.getElem?_eq_getElem hj)
theorem idxP_mem {ps : List Pt} {x y : Int} {v : Nat} (h : idxP ps x y = some v) : decide ((⟨x, y⟩ : Pt) ∈ ps) = true :=
  decide_eq_true (List.mem_of_getElem? (idxP_some h))
theorem idxP_off {ps : List Pt} {x y : Int} (h : idxP ps x y = none) : decide ((⟨x, y⟩ : Pt) ∈ ps) = false :=
  decide_eq_false fun hm => by
    obtain ⟨k, hk⟩ := List.mem_iff_getElem?.1 hm
    exact idxP_none h k hk
/-- a trip: its point, the block of the one before it, direction and steps -/
structure TripAt (w : World) (g : Nat) (e : Pt) (f : Option Nat) (d s : Int) : Prop where
  lt : g < w.heap.size
  c0 : w.cell? ⟨g, 0, none⟩ = some (.int .i64 e.x)
  c1 : w.cell? ⟨g, 1, none⟩ = some (.int .i64 e.y)
  c2 : w.cell? ⟨g, 2, none⟩ = some (ptrV f)
  c3 : w.cell? ⟨g, 3, none⟩ = some (.int .i64 d)
  c4 : w.cell? ⟨g, 4, none⟩ = some (.int .i64 s)
theorem TripAt.kept {w w' : World} {g : Nat} {e : Pt} {f : Option Nat} {d s : Int} {row : Option Nat} (h : TripAt w g e f d s) (hg : w.grownBy w' row) (hne : some g ≠ row) : TripAt w' g e f d s := by
  have hb : ∀ o, w'.cell? ⟨g, o, none⟩ = w.cell? ⟨g, o, none⟩ := fun o => World.cell?_of_block (a := ⟨g, o, none⟩) (hg.block g h.lt hne)
  exact ⟨Nat.lt_of_lt_of_le h.lt hg.size, (hb 0).trans h.c0, (hb 1).trans h.c1, (hb 2).trans h.c2, (hb 3).trans h.c3, (hb 4).trans h.c4⟩
abbrev WaySt := List Nat × List Int × List Int
/-- the trips of a search: T gives the block of a place's trip -/
structure Trips (w : World) (B : Nat) (ps : List Pt) (st : WaySt) (T : Nat → Option Nat) : Prop where
  off : ∀ v, v ∉ st.1 → T v = none
  on : ∀ v, v ∈ st.1 → ∃ (g : Nat) (e : Pt) (f : Option Nat) (d s : Int), T v = some g ∧ B ≤ g ∧ ps[v]? = some e ∧ st.2.1[v]? = some d ∧ st.2.2[v]? = some s ∧ TripAt w g e f d s ∧
    ((d = -1 ∧ f = none) ∨ ∃ dn u : Nat, d = (dn : Int) ∧ dn < 4 ∧ nbP ps v dn = some u ∧ u ∈ st.1 ∧ f = T u)
  inj : ∀ u v g, T u = some g → T v = some g → u = v
section
variable {w w' : World} {B : Nat} {ps : List Pt} {st : WaySt} {T : Nat → Option Nat}
theorem Trips.kept {row : Option Nat} (h : Trips w B ps st T) (hg : w.grownBy w' row) (hne : ∀ u g, T u = some g → some g ≠ row) : Trips w' B ps st T := by
  refine ⟨h.off, fun v hv => ?_, h.inj⟩
  obtain ⟨g, e, f, d, s, h1, h2, h3, h4, h5, h6, h7⟩ := h.on v hv
  exact ⟨g, e, f, d, s, h1, h2, h3, h4, h5, h6.kept hg (hne v g h1), h7⟩
theorem Trips.below (h : Trips w B ps st T) (hb : Below w.heap.size w w') : Trips w' B ps st T := h.kept (grown_below hb none) (fun u g _ e => by cases e)
theorem Trips.lt (h : Trips w B ps st T) {u g : Nat} (hu : T u = some g) : B ≤ g ∧ g < w.heap.size := by
  rcases Classical.em (u ∈ st.1) with hm | hm
  · obtain ⟨g', e, f, d, s, h1, h2, h3, h4, h5, h6, h7⟩ := h.on u hm
    rw [hu] at h1
    injection h1 with h1
    subst h1
    exact ⟨h2, h6.lt⟩
  · rw [h.off u hm] at hu; cases hu
/-- one more trip -/
theorem Trips.push {n r : Nat} {u v g d : Nat} {e : Pt} {su : Int} (h : Trips w B ps st T) (hI : WayInv n r st) (hv : st.2.2[v]? = some (-1)) (hvn : v < n) (he : ps[v]? = some e) (hu : u ∈ st.1) (hd : d < 4) (hb : nbP ps v ((d + 2) % 4) = some u)
    (hgB : B ≤ g) (hT : ∀ x y, T x = some y → y < g) (ht : TripAt w g e (T u) (backI d) su) : Trips w B ps (st.1 ++ [v], st.2.1.set v (backI d), st.2.2.set v su) (fun x => if x = v then some g else T x) := by
  have hnv : v ∉ st.1 := fun hm => by
    obtain ⟨s, hs, h0, _⟩ := hI.is v hm
    rw [hv] at hs
    injection hs with hs
    omega
  have hne : ∀ x ∈ st.1, x ≠ v := fun x hx e' => hnv (e' ▸ hx)
  refine ⟨fun x hx => ?_, fun x hx => ?_, fun x y k hx hy => ?_⟩
  · have h1 : x ∉ st.1 := fun hm => hx (List.mem_append.2 (.inl hm))
    have h2 : x ≠ v := fun e' => hx (List.mem_append.2 (.inr (by simp [e'])))
    simp only [if_neg h2]
    exact h.off x h1
  · rcases List.mem_append.1 hx with hx | hx
    · obtain ⟨g', e', f, d', s, h1, h2, h3, h4, h5, h6, h7⟩ := h.on x hx
      have hxv := hne x hx
      refine ⟨g', e', f, d', s, by simp only [if_neg hxv]; exact h1, h2, h3, ?_, ?_, h6, ?_⟩
      · show (st.2.1.set v _)[x]? = _
        rw [List.getElem?_set_ne (Ne.symm hxv)]; exact h4
      · show (st.2.2.set v _)[x]? = _
        rw [List.getElem?_set_ne (Ne.symm hxv)]; exact h5
      · rcases h7 with h7 | ⟨dn, u', a1, a2, a3, a4, a5⟩
        · exact .inl h7
        · exact .inr ⟨dn, u', a1, a2, a3, List.mem_append.2 (.inl a4), by simp only [if_neg (hne u' a4)]; exact a5⟩
    · simp at hx
      subst hx
      refine ⟨g, e, T u, backI d, su, by simp, hgB, he, ?_, ?_, ht, .inr ⟨(d + 2) % 4, u, rfl, by omega, hb, List.mem_append.2 (.inl hu), by simp only [if_neg (hne u hu)]⟩⟩
      · show (st.2.1.set x _)[x]? = _
        rw [List.getElem?_set_self (by rw [hI.lp]; exact hvn)]
      · show (st.2.2.set x _)[x]? = _
        rw [List.getElem?_set_self (by rw [hI.ls]; exact hvn)]
  · by_cases hxv : x = v
    · by_cases hyv : y = v
      · rw [hxv, hyv]
      · simp only [if_pos hxv, if_neg hyv] at hx hy
        injection hx with hx
        have := hT y k hy
        omega
    · by_cases hyv : y = v
      · simp only [if_neg hxv, if_pos hyv] at hx hy
        injection hy with hy
        have := hT x k hx
        omega
      · simp only [if_neg hxv, if_neg hyv] at hx hy
        exact h.inj x y k hx hy
end
/-- what the map of the trips says -/
def tripM (ps : List Pt) (T : Nat → Option Nat) (x y : Int) : Option Nat := (idxP ps x y).bind T
theorem tripM_none {ps : List Pt} {T : Nat → Option Nat} {x y : Int} (h : idxP ps x y = none) : tripM ps T x y = none := by unfold tripM; rw [h]; rfl
theorem tripM_at {ps : List Pt} {T : Nat → Option Nat} {x y : Int} {v : Nat} (h : idxP ps x y = some v) : tripM ps T x y = T v := by unfold tripM; rw [h]; rfl
theorem tripM_put {ps : List Pt} (hS : Shp ps) {T : Nat → Option Nat} {v g : Nat} {e : Pt} (he : ps[v]? = some e) (x y : Int) : (if x = e.x ∧ y = e.y then some g else tripM ps T x y) = tripM ps (fun u => if u = v then some g else T u) x y := by
  unfold tripM
  by_cases hxy : x = e.x ∧ y = e.y
  · obtain ⟨rfl, rfl⟩ := hxy
    rw [hS.idx he]
    simp
  · rw [if_neg hxy]
    cases hi : idxP ps x y with
    | none => rfl
    | some k =>
      have hk : k ≠ v := fun e' => by
        subst e'
        have := idxP_some hi
        rw [he] at this
        injection this with this
        subst this
        exact hxy ⟨rfl, rfl⟩
      simp [hk]
theorem way1_none {ps : List Pt} {k d u : Nat} {st : WaySt} {e : Pt} (hu : st.1[k]? = some u) (he : ps[u]? = some e) (hl : idxP ps (stepX e.x d) (stepY e.y d) = none) : way1 (nbP ps) k d st = st := by
  unfold way1 nbP
  rw [hu]
  simp only [he, hl]
theorem way1_old {ps : List Pt} {k d u v : Nat} {st : WaySt} {e : Pt} {s : Int} (hu : st.1[k]? = some u) (he : ps[u]? = some e) (hl : idxP ps (stepX e.x d) (stepY e.y d) = some v) (hv : st.2.2[v]? = some s) (hs : s ≠ -1) : way1 (nbP ps) k d st = st := by
  unfold way1 nbP
  rw [hu]
  simp only [he, hl, hv]
  rw [if_neg (fun e => hs (by injection e))]
theorem way1_new {ps : List Pt} {k d u v : Nat} {st : WaySt} {e : Pt} {s : Int} (hu : st.1[k]? = some u) (he : ps[u]? = some e) (hl : idxP ps (stepX e.x d) (stepY e.y d) = some v) (hv : st.2.2[v]? = some (-1)) (hs : st.2.2[u]? = some s) : way1 (nbP ps) k d st = (st.1 ++ [v], st.2.1.set v (backI d), st.2.2.set v (s + 1)) := by
  unfold way1 nbP
  rw [hu]
  simp only [he, hl, hv, hs]
  rfl
theorem nbP_back {ps : List Pt} (h : Shp ps) {u d v : Nat} {e : Pt} (hu : ps[u]? = some e) (hd : d < 4) (hv : idxP ps (stepX e.x d) (stepY e.y d) = some v) : nbP ps v ((d + 2) % 4) = some u := by
  have hk := idxP_some hv
  unfold nbP
  rw [hk]
  simp only
  have hb : stepX (stepX e.x d) (((d + 2) % 4 : Nat) : Int) = e.x ∧ stepY (stepY e.y d) (((d + 2) % 4 : Nat) : Int) = e.y := by
    have : d = 0 ∨ d = 1 ∨ d = 2 ∨ d = 3 := by omega
    rcases this with rfl | rfl | rfl | rfl <;> simp [stepX, stepY]
  rw [hb.1, hb.2]
  exact h.idx hu
theorem oppN_back (d : Nat) (hd : d < 4) : (oppN d : Int) = backI d := by
  have : d = 0 ∨ d = 1 ∨ d = 2 ∨ d = 3 := by omega
  rcases this with rfl | rfl | rfl | rfl <;> rfl
end Go.Proofs.Ytpnilnpgiampgaa
/- Walks: the program reaches the points of a shape from one of them. -/

namespace Go.Proofs.Ytpnilnpgiampgaa
open Go.RowKit Go.Shelf
attribute [local go_sem] BelowBy.cell BelowBy.cell_drew stillUpon givesUpon

theorem infoTp : (Try.prog.info? 83).map (fun i => (i.zero, i.size, i.bytes)) = some (some (.pointer none), 1, 8) := by kernel_rfl
def ReachR (w : World) (ps : List Pt) (r : Nat) (e : Ending) (w' : World) : Prop := ∃ (b m : Nat) (T : Nat → Option Nat), e = .returned (.map (some b)) ∧ TMap w' b m (tripM ps T) ∧ m ≤ ps.length ∧ Trips w' w.heap.size ps (wayS (nbP ps) (way0 ps.length r) ps.length) T ∧ Below w.heap.size w w'
theorem wpList_look_tmap0 {ops : Array Oper} {rest : List Oper} {o : Oper} {a : Act} {Q : Exit → Act → World → Prop} (w : World) (hg : o.guard = none) (m k : Operand) (hop : o.op = Op.lookup 81 m k false) (b n : Nat) (M : Int → Int → Option Nat) (hm : a.eval m = .map (some b)) (h : TMap w b n M) (x y : Int) (hx : W64 x) (hy : W64 y) (hk : a.eval k = .agg #[.int .i64 x, .int .i64 y])
    (hr : M x y = none) (hK : wpList Try.prog ops Q rest (a.put o.dst (.pointer none)) w) : wpList Try.prog ops Q (o :: rest) a w := wpList_look_tmap w hg m k hop b n M hm h x y hx hy hk none hr hK
theorem wpList_look_tmap1 {ops : Array Oper} {rest : List Oper} {o : Oper} {a : Act} {Q : Exit → Act → World → Prop} (w : World) (hg : o.guard = none) (m k : Operand) (hop : o.op = Op.lookup 81 m k false) (b n : Nat) (M : Int → Int → Option Nat) (hm : a.eval m = .map (some b)) (h : TMap w b n M) (x y : Int) (hx : W64 x) (hy : W64 y) (hk : a.eval k = .agg #[.int .i64 x, .int .i64 y])
    (g : Nat) (hr : M x y = some g) (hK : wpList Try.prog ops Q rest (a.put o.dst (.pointer (some ⟨g, 0, none⟩))) w) : wpList Try.prog ops Q (o :: rest) a w := wpList_look_tmap w hg m k hop b n M hm h x y hx hy hk (some g) hr hK
theorem tmap_put_run {w : World} {b n : Nat} {M : Int → Int → Option Nat} (h : TMap w b n M) {x y : Int} (hx : W64 x) (hy : W64 y) (g : Nat) (hn : n < maxLen) :
    ∃ w', (Instr.mapUpdate 81 (.map (some b)) (.agg #[.int .i64 x, .int .i64 y]) (.pointer (some ⟨g, 0, none⟩))).run Try.prog w = .ok () w' ∧ TMap w' b (n + 1) (fun i j => if i = x ∧ j = y then some g else M i j) ∧ w.grownBy w' (some b) := by
  obtain ⟨D, hown, hat, hks⟩ := h
  obtain ⟨w', hrun, h1, h2⟩ := hown.update pt_keyed Try.underlying81 hn (keyOf_pt hx hy) (ptrElem_mk (some g))
  exact ⟨w', hrun, TMap.put_ hx hy hown.isMap hat hks h1, h2⟩
set_option maxRecDepth 100000 in
set_option maxHeartbeats 4000000 in
theorem reach_any (A : Option Addr) (n c : Nat) (ps : List Pt) (r : Nat) (x y : Int) (w : World) (hA : RdSl 2 RPt w A n ps) (hS : Shp ps) (hn : n ≤ 100000) (hr : ps[r]? = some ⟨x, y⟩) :
    Calls Try.prog 50 #[.slice A n c, .agg #[.int .i64 x, .int .i64 y]] w (ReachR w ps r) := by
  obtain ⟨i0, hi, hz0, hz1, hz2⟩ := info_parts infoTp
  have hmm := @run_makeMap Try.prog
  have hl := hA.len
  have hrn : r < n := by rw [← hl]; exact lt_of_get hr
  have hpt := hS.pt r _ hr
  simp only at hpt
  have hlH := Lib.hid hl
  have hAH := Lib.hid hA
  have hSH := Lib.hid hS
  have hrH := Lib.hid hr
  clear hA hl hS hr
  obtain ⟨w4, hrun4, hM4, hg4⟩ := tmap_put_run (TMap.made ((w.alloc (Obj.cells #[.int .i64 x, .int .i64 y] 60)).alloc (Obj.cells #[.int .i64 x, .int .i64 y, .pointer none, .int .i64 (-1), .int .i64 0] 85))) (x := x) (y := y) (W64.of (by omega)) (W64.of (by omega)) (w.heap.size + 1) (by unfold maxLen; omega)
  simp only [World.size_alloc] at hrun4 hM4 hg4
  have hM4H := Lib.hid hM4
  have hg4H := Lib.hid hg4
  clear hM4 hg4
  have hszg := hg4H.out.size
  simp only [World.size_alloc] at hszg
  have htr0 : TripAt w4 (w.heap.size + 1) ⟨x, y⟩ none (-1) 0 := by
    have h0 : TripAt (((w.alloc (Obj.cells #[.int .i64 x, .int .i64 y] 60)).alloc (Obj.cells #[.int .i64 x, .int .i64 y, .pointer none, .int .i64 (-1), .int .i64 0] 85)).alloc (Obj.map #[] 0)) (w.heap.size + 1) ⟨x, y⟩ none (-1) 0 :=
      ⟨by simp, by go_simp, by go_simp, by go_simp; rfl, by go_simp, by go_simp⟩
    exact h0.kept hg4H.out (by intro e; injection e with e; omega)
  have hI0 := WayInv.start hrn
  obtain ⟨s0, hs0⟩ : ∃ s0, way0 n r = s0 := ⟨_, rfl⟩
  have hs1 : s0.1 = [r] := by rw [← hs0]; rfl
  have htrs0 : Trips w4 w.heap.size ps s0 (fun u => if u = r then some (w.heap.size + 1) else none) := by
    refine ⟨fun v hv => ?_, fun v hv => ?_, fun u v g hu hv => ?_⟩
    · rw [hs1] at hv
      simp at hv
      simp [hv]
    · rw [hs1] at hv
      simp at hv
      subst hv
      refine ⟨w.heap.size + 1, ⟨x, y⟩, none, -1, 0, by simp, by omega, hrH.out, ?_, ?_, htr0, .inl ⟨rfl, rfl⟩⟩
      · rw [← hs0]; show (List.replicate n (-1 : Int))[v]? = _; rw [List.getElem?_replicate, if_pos hrn]
      · rw [← hs0]; show ((List.replicate n (-1 : Int)).set v 0)[v]? = _; rw [List.getElem?_set_self (by rw [List.length_replicate]; exact hrn)]
    · by_cases h1 : u = r
      · by_cases h2 : v = r
        · rw [h1, h2]
        · simp [h2] at hv
      · simp [h1] at hu
  rw [hs0] at hI0
  have hM5 := Lib.hid (hM4H.out.say (M' := tripM ps (fun u => if u = r then some (w.heap.size + 1) else none)) fun i j => by
    have := tripM_put hSH.out hrH.out (T := fun _ => none) (g := w.heap.size + 1) i j
    rw [← this]
    split
    · rfl
    · unfold tripM; cases idxP ps i j <;> rfl)
  have hb4 := Lib.hid ((((bl_al (bl_al (bl_al (bl_refl w) (Obj.cells #[.int .i64 x, .int .i64 y] 60)) (Obj.cells #[.int .i64 x, .int .i64 y, .pointer none, .int .i64 (-1), .int .i64 0] 85)) (Obj.map #[] 0))).grown hg4H.out (by simp; omega) (by intro q e; injection e with e; omega)))
  have hI0H := Lib.hid hI0
  have hs0H := Lib.hid hs0
  have hs1H := Lib.hid hs1
  have htrs0H := Lib.hid htrs0
  clear hs1 htrs0 htr0 hI0 hs0 hg4H hM4H
  go_enter Try.func50, Try.ntmps50
  go_wp2
  obtain ⟨B1, hB1⟩ : ∃ B1, w.heap.size + 1 + 1 = B1 := ⟨_, rfl⟩
  have hB1a : w.heap.size + 1 < B1 := by omega
  have hB1b : B1 < w4.heap.size := by omega
  rw [hB1]
  rw [hB1] at hM5
  clear hB1 hrun4
  have hq1 := Lib.hid (QRow.of_own (World.ownsRow_lit (base := w.heap.size) (e := 83) (size := 1) w4 #[.pointer (some ⟨w.heap.size + 1, 0, none⟩)] 1 (by omega) (by decide) rfl) (by omega))
  go_loopg [7] n (fun g v wr => ∃ (k N : Nat) (T : Nat → Option Nat), k + g = n ∧ N + k = (wayS (nbP ps) s0 k).1.length ∧ Hid (QRow wr w.heap.size 1 v N (((wayS (nbP ps) s0 k).1.drop k).map fun u => ptrV (T u))) ∧ Hid (TMap wr B1 (wayS (nbP ps) s0 k).1.length (tripM ps T)) ∧ Hid (Trips wr w.heap.size ps (wayS (nbP ps) s0 k) T) ∧ Hid (∀ u g, T u = some g → v.ownBlock ≠ some g ∧ g ≠ B1) ∧ Hid (v.ownBlock ≠ some B1) ∧ Hid (Below w.heap.size w wr))
  case atStart =>
    refine ⟨0, 1, _, by omega, by simp [wayS, hs1H.out], Lib.hid ?_, Lib.hid ?_, Lib.hid ((htrs0H.out).below (by exact bel_)), Lib.hid ?_, Lib.hid ?_, Lib.hid (bl_al hb4.out _)⟩
    · have := hq1.out
      simpa [wayS, hs1H.out, ptrV] using this
    · have := hM5.out.below (bl_al (bl_refl w4) (Obj.cells #[.pointer (some ⟨w.heap.size + 1, 0, none⟩)] 83))
      simpa [wayS, hs1H.out] using this
    · intro u g hu
      by_cases h1 : u = r
      · simp [h1] at hu
        subst hu
        simp only [Value.ownBlock]
        exact ⟨fun e => by injection e with e; omega, by omega⟩
      · simp [h1] at hu
    · simp only [Value.ownBlock]
      intro e
      injection e with e
      omega
  case round =>
    clear hM5 hq1 hb4 htrs0H hszg
    obtain ⟨k, N, T, hk, hN, hQ, hM, hT, hD, hQM, hbw⟩ := hrel
    have hszl := hbw.out.size
    have hI := Lib.hid (hI0H.out.all (nb := nbP ps) k)
    have hlen := hI.out.length
    obtain ⟨st, hst⟩ : ∃ st, wayS (nbP ps) s0 k = st := ⟨_, rfl⟩
    rw [hst] at hN hQ hM hT hI hlen
    have hstH := Lib.hid hst
    clear hst
    obtain ⟨gq, oq, cap, rfl, hgq1, hgq2, hcap⟩ := hQ.out.form
    by_cases hkn : k < st.1.length
    · obtain ⟨N', rfl⟩ : ∃ N', N = N' + 1 := ⟨N - 1, by omega⟩
      obtain ⟨u, hu⟩ : ∃ u, st.1[k]? = some u := ⟨_, List.getElem?_eq_getElem hkn⟩
      have hdrop : st.1.drop k = u :: st.1.drop (k + 1) := by
        rw [List.drop_eq_getElem_cons hkn]
        rw [List.getElem?_eq_getElem hkn] at hu
        injection hu with hu
        rw [hu]
      rw [hdrop, List.map_cons] at hQ
      have hum := List.mem_of_getElem? hu
      obtain ⟨gu, eu, fu, du, su, hTu, hgB, heu, hdu, hsu, htr, hfr⟩ := hT.out.on u hum
      have hq0 := hQ.out.head
      rw [hTu] at hq0
      have hQ' := Lib.hid hQ.out.pop
      have hcap2 : N' ≤ cap - 1 := by omega
      obtain ⟨A2, hA2⟩ : ∃ A2, (if cap = 1 then some (⟨gq, oq, none⟩ : Addr) else some ⟨gq, oq + 1, none⟩) = A2 := ⟨_, rfl⟩
      have hsl : ∀ W, (Instr.slice 102 (.slice (some ⟨gq, oq, none⟩) (N' + 1) cap) (some (.int .i64 1)) none none).run Try.prog W = .ok (.slice A2 N' (cap - 1)) W := fun W => by
        rw [← hA2]
        go_simp
        intro hh
        omega
      have hq0' : wr.cell? ⟨gq, oq, none⟩ = some (.pointer (some ⟨gu, 0, none⟩)) := hq0
      have hsuH := Lib.hid hsu
      have heuH := Lib.hid heu
      have huH := Lib.hid hu
      have hTuH := Lib.hid hTu
      have hA2H := Lib.hid hA2
      have hOB := Lib.hid (show Value.ownBlock (.slice A2 N' (cap - 1)) = some gq by rw [← hA2]; split <;> rfl)
      have hD' := Lib.hid (show ∀ x g, T x = some g → Value.ownBlock (.slice A2 N' (cap - 1)) ≠ some g ∧ g ≠ B1 from fun x g hx => ⟨by rw [hOB.out]; exact (hD.out x g hx).1, (hD.out x g hx).2⟩)
      have hQM' := Lib.hid (show Value.ownBlock (.slice A2 N' (cap - 1)) ≠ some B1 by rw [hOB.out]; exact hQM.out)
      have hptu := hSH.out.pt u eu heu
      clear hq0 hdrop hsu heu hu hTu hA2 htr hfr hdu hQ hD hQM hum
      go_wp2
      go_loopg [29, 7] 4 (fun g d v wy => ∃ (dn N2 : Nat) (T2 : Nat → Option Nat), dn + g = 4 ∧ d = .int .i64 (dn : Int) ∧ N2 + (k + 1) = (way4 (nbP ps) k st dn).1.length ∧ Hid (QRow wy w.heap.size 1 v N2 (((way4 (nbP ps) k st dn).1.drop (k + 1)).map fun x => ptrV (T2 x))) ∧ Hid (TMap wy B1 (way4 (nbP ps) k st dn).1.length (tripM ps T2)) ∧ Hid (Trips wy w.heap.size ps (way4 (nbP ps) k st dn) T2) ∧ Hid (∀ x g, T2 x = some g → v.ownBlock ≠ some g ∧ g ≠ B1) ∧ Hid (v.ownBlock ≠ some B1) ∧ Hid (T2 u = some gu) ∧ Hid (Below w.heap.size w wy))
      case atStart => exact ⟨0, N', T, by omega, rfl, (by show N' + (k + 1) = st.1.length; omega), Lib.hid (by rw [← hA2H.out]; exact hQ'.out), hM, hT, hD', hQM', hTuH, hbw⟩
      case round =>
        clear hQ' hM hT hD' hQM' hTuH hbw hsl hq0' hszl hcap hcap2 hgq1 hgq2 hOB hA2H
        obtain ⟨dn, N2, T2, hd, rfl, hN2, hQ2, hM2, hT2, hD2, hQM2, hTu2, hby⟩ := hrel
        have hszy := hby.out.size
        have hId := Lib.hid (hI.out.four (nb := nbP ps) k dn)
        have hlend := hId.out.length
        have hud := way4_at (nb := nbP ps) huH.out dn
        have h4 : way4 (nbP ps) k st (dn + 1) = way1 (nbP ps) k dn (way4 (nbP ps) k st dn) := rfl
        have h4' : dn = 4 → way4 (nbP ps) k st dn = wayS (nbP ps) s0 (k + 1) := fun e => by subst e; rw [← hstH.out]; rfl
        obtain ⟨sd, hsd⟩ : ∃ sd, way4 (nbP ps) k st dn = sd := ⟨_, rfl⟩
        rw [hsd] at hQ2 hM2 hT2 hId hlend hud h4 h4' hN2
        have h4H := Lib.hid h4
        have h4'H := Lib.hid h4'
        clear hsd h4 h4'
        obtain ⟨gq, oq, cap, rfl, hgq1, hgq2, hcap⟩ := hQ2.out.form
        by_cases hd4 : dn < 4
        · have hdI : (dn : Int) < 4 := by omega
          have hum := List.mem_of_getElem? hud
          obtain ⟨gu', e', f', d', s', hTu', hgB', heu', hdu', hsu', htr', hfr'⟩ := hT2.out.on u hum
          obtain rfl : gu' = gu := by rw [hTu2.out] at hTu'; injection hTu' with h; exact h.symm
          obtain rfl : e' = eu := by rw [heuH.out] at heu'; injection heu' with h; exact h.symm
          have hsB : 0 ≤ s' ∧ s' < (sd.1.length : Int) := by
            obtain ⟨s, h1, h2, h3⟩ := hId.out.is u hum
            rw [hsu'] at h1
            injection h1 with h1
            subst h1
            exact ⟨h2, h3⟩
          have tlt := htr'.lt
          have t0 := htr'.c0
          have t1 := htr'.c1
          have t4 := htr'.c4
          have hsu'H := Lib.hid hsu'
          have htrH := Lib.hid htr'
          obtain ⟨sx, hsxe⟩ : ∃ sx, stepX e'.x (dn : Nat) = sx := ⟨_, rfl⟩
          obtain ⟨sy, hsye⟩ : ∃ sy, stepY e'.y (dn : Nat) = sy := ⟨_, rfl⟩
          have hsr : (-62 ≤ sx ∧ sx ≤ 62) ∧ (-62 ≤ sy ∧ sy ≤ 62) := by
            rw [← hsxe, ← hsye]
            have : dn = 0 ∨ dn = 1 ∨ dn = 2 ∨ dn = 3 := by omega
            rcases this with rfl | rfl | rfl | rfl <;> simp [stepX, stepY] <;> omega
          have hsxH := Lib.hid hsxe
          have hsyH := Lib.hid hsye
          have hudH := Lib.hid hud
          have hAy := Lib.hid (hAH.out.below RPt.stable hby.out)
          clear hsxe hsye hud hTu' hdu' hsu' htr' hfr' heu'
          cases hix : idxP ps sx sy with
          | none =>
            have hms := Lib.hid (way1_none (d := dn) hudH.out heuH.out (by rw [hsxH.out, hsyH.out]; exact hix))
            have hlk := Lib.hid (tripM_none (T := T2) hix)
            have hmem := Lib.hid (idxP_off hix)
            clear hix
            go_wp2_with (first
              | (go_at_call 60; refine (step_any _ _ _ _ hd4 ⟨by omega, by omega⟩ ⟨by omega, by omega⟩).mono ?_; rw [hsxH.out, hsyH.out]; rintro e' w1 ⟨rfl, hb1⟩; obtain ⟨c1, f1, s1, t1⟩ := bcell hb1; have hs1 := hb1.size; have hb1H := Lib.hid hb1; clear hb1)
              | (at_lookup; refine wpList_look_tmap0 _ rfl _ _ rfl B1 _ _ rfl ((hM2.out.below hb1H.out).below (by exact bel_)) sx sy (W64.of (by omega)) (W64.of (by omega)) rfl hlk.out ?_)
              | (go_at_call 72; refine (isIn_at (L := ps) ((hAy.out.below RPt.stable hb1H.out).below RPt.stable (by exact bel_)) hSH.out.sortedS hn hmem.out).mono ?_; rintro e' w2 ⟨rfl, hb2⟩; have hs2 := hb2.size; have hb2H := Lib.hid hb2; clear hb2))
            have hb3H : Hid (Below wr.heap.size wr w2) := Lib.hid (((hb1H.out).alloc hs1 _).trans (hb2H.out.mono (by simp; omega)))
            go_roundg (4 - (dn + 1))
            case measure => omega
            case rel => exact ⟨dn + 1, N2, T2, by omega, by go_num, by rw [h4H.out, hms.out]; exact hN2, Lib.hid (by rw [h4H.out, hms.out]; exact hQ2.out.below hb3H.out), Lib.hid (by rw [h4H.out, hms.out]; exact hM2.out.below hb3H.out), Lib.hid (by rw [h4H.out, hms.out]; exact hT2.out.below hb3H.out), hD2, hQM2, hTu2, Lib.hid (hby.out.trans (hb3H.out.mono hszy))⟩
          | some v =>
            have hvp := idxP_some hix
            have hvn : v < n := by rw [← hlH.out]; exact lt_of_get hvp
            have hixH := Lib.hid (show idxP ps (stepX e'.x dn) (stepY e'.y dn) = some v by rw [hsxH.out, hsyH.out]; exact hix)
            by_cases hvm : v ∈ sd.1
            · obtain ⟨gv, ev, fv, dv, sv, hTv, _, _, _, hsv, _, _⟩ := hT2.out.on v hvm
              have hsv1 : sv ≠ -1 := by
                obtain ⟨s, h1, h2, _⟩ := hId.out.is v hvm
                rw [hsv] at h1
                injection h1 with h1
                omega
              have hms := Lib.hid (way1_old (d := dn) hudH.out heuH.out hixH.out hsv hsv1)
              have hlk := Lib.hid ((tripM_at (T := T2) hix).trans hTv)
              clear hix hTv hsv hsv1 hvp hvm
              go_wp2_with (first
                | (go_at_call 60; refine (step_any _ _ _ _ hd4 ⟨by omega, by omega⟩ ⟨by omega, by omega⟩).mono ?_; rw [hsxH.out, hsyH.out]; rintro e' w1 ⟨rfl, hb1⟩; obtain ⟨c1, f1, s1, t1⟩ := bcell hb1; have hs1 := hb1.size; have hb1H := Lib.hid hb1; clear hb1)
                | (at_lookup; refine wpList_look_tmap1 _ rfl _ _ rfl B1 _ _ rfl ((hM2.out.below hb1H.out).below (by exact bel_)) sx sy (W64.of (by omega)) (W64.of (by omega)) rfl gv hlk.out ?_))
              have hb3H : Hid (Below wr.heap.size wr (w1.alloc (Obj.cells #[.int .i64 sx, .int .i64 sy] 60))) := Lib.hid ((hb1H.out).alloc hs1 _)
              go_roundg (4 - (dn + 1))
              case measure => omega
              case rel => exact ⟨dn + 1, N2, T2, by omega, by go_num, by rw [h4H.out, hms.out]; exact hN2, Lib.hid (by rw [h4H.out, hms.out]; exact hQ2.out.below hb3H.out), Lib.hid (by rw [h4H.out, hms.out]; exact hM2.out.below hb3H.out), Lib.hid (by rw [h4H.out, hms.out]; exact hT2.out.below hb3H.out), hD2, hQM2, hTu2, Lib.hid (hby.out.trans (hb3H.out.mono hszy))⟩
            · have hv1 := (hId.out.other v hvn hvm).1
              have hms := Lib.hid (way1_new (d := dn) hudH.out heuH.out hixH.out hv1 hsu'H.out)
              have hlk := Lib.hid ((tripM_at (T := T2) hix).trans (hT2.out.off v hvm))
              have hmem := Lib.hid (idxP_mem hix)
              have hv1H := Lib.hid hv1
              have hvmH := Lib.hid hvm
              have hvpH := Lib.hid hvp
              clear hix hv1 hvp hvm
              go_wp2_with (first
                | (go_at_call 60; refine (step_any _ _ _ _ hd4 ⟨by omega, by omega⟩ ⟨by omega, by omega⟩).mono ?_; rw [hsxH.out, hsyH.out]; rintro e' w1 ⟨rfl, hb1⟩; obtain ⟨c1, f1, s1, t1⟩ := bcell hb1; have hs1 := hb1.size; have hb1H := Lib.hid hb1; clear hb1)
                | (at_lookup; refine wpList_look_tmap0 _ rfl _ _ rfl B1 _ _ rfl ((hM2.out.below hb1H.out).below (by exact bel_)) sx sy (W64.of (by omega)) (W64.of (by omega)) rfl hlk.out ?_)
                | (go_at_call 72; refine (isIn_at (L := ps) ((hAy.out.below RPt.stable hb1H.out).below RPt.stable (by exact bel_)) hSH.out.sortedS hn hmem.out).mono ?_; rintro e' w2 ⟨rfl, hb2⟩; have hs2 := hb2.size; have hb2H := Lib.hid hb2; clear hb2))
              have hb3H : Hid (Below wr.heap.size wr w2) := Lib.hid (((hb1H.out).alloc hs1 _).trans (hb2H.out.mono (by simp; omega)))
              have hs3 := hb3H.out.size
              have p0 : w2.cell? ⟨w1.heap.size, 0, none⟩ = some (.int .i64 sx) := (hb2H.out.cell (p := ⟨w1.heap.size, 0, none⟩) (by simp)).trans (by go_simp)
              have p1 : w2.cell? ⟨w1.heap.size, 1, none⟩ = some (.int .i64 sy) := (hb2H.out.cell (p := ⟨w1.heap.size, 1, none⟩) (by simp)).trans (by go_simp)
              have t4' : w2.cell? ⟨gu', 4, none⟩ = some (.int .i64 s') := (hb3H.out.cell (p := ⟨gu', 4, none⟩) tlt).trans t4
              have tlt' : gu' < w2.heap.size := by omega
              have hs2' : w1.heap.size < w2.heap.size := by simp at hs2; omega
              clear c1 f1 s1 t1 t0 t4
              refine wp_region_ord [(0, .q), (1, .q), (2, .q), (4, .q), (5, .q), (6, .q), (7, .q), (8, .q), (3, .g), (9, .q), (10, .g), (11, .q)] (by kernel_rfl) (by kernel_rfl) ?_
              simp only [pick, List.filterMap_cons, List.filterMap_nil, List.getElem?_toArray, List.getElem?_cons_zero, List.getElem?_cons_succ, Option.map_some]
              repeat (first
                | ((with_reducible refine wpD_p (fun K hK => ?_)); go_simp; refine hK _ ?_; clear hK K)
                | ((with_reducible refine wpD_q (fun K hK => ?_)); go_simp; (first | refine hK _ ?_ | (go_bits; refine hK _ ?_) | (go_bits; go_simp; refine hK _ ?_)); clear hK K)
                | ((with_reducible refine wpD_g (fun K hK => ?_)); go_simp; refine hK _ _ ?_; clear hK K)
                | ((with_reducible refine wpD_g (fun K hK => ?_)); go_simp; refine ⟨Grew.of_alloc _, hK _ _ ?_⟩; clear hK K)
                | ((with_reducible refine wpD_g (fun K hK => ?_)); go_simp; go_at_call 73; refine (opposite_any _ _ hd4).mono ?_; rintro e _ ⟨rfl, rfl⟩; refine ⟨_, rfl, Below.refl _ _, hK _ _ ?_⟩; clear hK K))
              with_reducible refine wpD_nil ?_
              have hMl := hM2.out.lt
              have hwx : Hid (Below w2.heap.size w2 (w2.alloc (Obj.cells #[.int .i64 sx, .int .i64 sy, .pointer (some ⟨gu', 0, none⟩), .int .i64 (oppN dn : Int), .int .i64 (s' + 1)] 85)).drew) := Lib.hid (by exact bel_)
              have htx : Hid (TripAt (w2.alloc (Obj.cells #[.int .i64 sx, .int .i64 sy, .pointer (some ⟨gu', 0, none⟩), .int .i64 (oppN dn : Int), .int .i64 (s' + 1)] 85)).drew w2.heap.size ⟨sx, sy⟩ (T2 u) (backI dn) (s' + 1)) := Lib.hid (by
                rw [hTu2.out, ← oppN_back dn hd4]
                exact ⟨by simp, by go_simp, by go_simp, by go_simp; rfl, by go_simp, by go_simp⟩)
              have hTx := Lib.hid (((hT2.out.below hb3H.out).below hwx.out).push hId.out hv1H.out hvn hvpH.out (List.mem_of_getElem? hudH.out) hd4 (nbP_back hSH.out heuH.out hd4 hixH.out) (by omega) (fun x y hx => by have := (hT2.out.lt hx).2; omega) htx.out)
              obtain ⟨T', hT'⟩ : ∃ T', (fun x => if x = v then some w2.heap.size else T2 x) = T' := ⟨_, rfl⟩
              have hTn : ∀ x g, T' x = some g → g ≠ B1 ∧ g ≠ gq := fun x g hx => by
                rw [← hT'] at hx
                simp only [] at hx
                split at hx
                · injection hx with hx
                  exact ⟨by omega, by omega⟩
                · exact ⟨(hD2.out x g hx).2, fun e => (hD2.out x g hx).1 (by rw [e]; rfl)⟩
              have hTl : ∀ x g, T' x = some g → g ≤ w2.heap.size := fun x g hx => by
                rw [← hT'] at hx
                simp only [] at hx
                split at hx
                · injection hx with hx
                  omega
                · have := (hT2.out.lt hx).2; omega
              have hne : ∀ x, x ∈ sd.1 → x ≠ v := fun x hx e => hvmH.out (e ▸ hx)
              have hTo : ∀ x, x ∈ sd.1 → T' x = T2 x := fun x hx => by rw [← hT']; simp [hne x hx]
              have hTv : T' v = some w2.heap.size := by rw [← hT']; simp
              have hQn : (((sd.1 ++ [v]).drop (k + 1)).map fun x => ptrV (T' x)) = ((sd.1.drop (k + 1)).map fun x => ptrV (T2 x)) ++ [.pointer (some ⟨w2.heap.size, 0, none⟩)] := by
                rw [List.drop_append_of_le_length (by omega), List.map_append, List.map_singleton, hTv]
                congr 1
                exact List.map_congr_left fun x hx => by rw [hTo x (List.mem_of_mem_drop hx)]
              have hsay := tripM_put hSH.out hvpH.out (T := T2) (g := w2.heap.size)
              rw [hT'] at hTx hsay
              have hTnH := Lib.hid hTn
              have hTlH := Lib.hid hTl
              have hToH := Lib.hid hTo
              have hQnH := Lib.hid hQn
              have hsayH := Lib.hid hsay
              clear hTn hTl hTo hQn hsay hne hTv hT'
              go_wp2_with (first
                | (at_mapUpdate; refine wpList_put_tmap _ rfl _ _ _ (.inl rfl) B1 _ _ rfl ((hM2.out.below hb3H.out).below hwx.out) sx sy (W64.of (by omega)) (W64.of (by omega)) _ (by unfold maxLen; omega) rfl rfl ?_; intro w6 hM6 hg6; have hs6 : w2.heap.size + 1 ≤ w6.heap.size := (by have := hg6.size; simpa using this); have hM6H := Lib.hid hM6; have hg6H := Lib.hid hg6; have hQ6 := Lib.hid (((hQ2.out.below hb3H.out).below hwx.out).kept hg6 hQM2.out); clear hM6 hg6)
                | (at_builtin; refine wpList_append_q rfl _ _ 102 rfl w.heap.size 83 i0 (.pointer none) 1 8 Try.underlying102 hi hz0 hz1 hz2 rfl (by decide) _ N2 _ rfl (hQ6.out.below (bl_al (bl_refl _) _)) ⟨w6.heap.size, 0, none⟩ 1 1 [.pointer (some ⟨w2.heap.size, 0, none⟩)] rfl rfl (cell_one_new _ _ _) (fun x hx => by simp at hx; subst hx; rfl) (by omega) (by unfold maxLen; omega) (by omega) (by simp; omega) ?_; intro v7 w7 hq7 hg7 hat7; have hq7H := Lib.hid hq7; have hg7H := Lib.hid hg7; have hat7H := Lib.hid hat7; clear hq7 hg7 hat7))
              go_roundg (4 - (dn + 1))
              case measure => omega
              case rel =>
                refine ⟨dn + 1, N2 + 1, T', by omega, by go_num, ?_, Lib.hid ?_, Lib.hid ?_, Lib.hid ?_, Lib.hid ?_, Lib.hid ?_, Lib.hid ?_, Lib.hid ?_⟩
                · rw [h4H.out, hms.out]; simp; omega
                · rw [h4H.out, hms.out]
                  show QRow w7 w.heap.size 1 v7 (N2 + 1) (((sd.1 ++ [v]).drop (k + 1)).map fun x => ptrV (T' x))
                  rw [hQnH.out]
                  exact hq7H.out
                · rw [h4H.out, hms.out]
                  have h1 := ((hM6H.out.below (bl_al (bl_refl _) _)).kept hg7H.out (Ne.symm hQM2.out)).say hsayH.out
                  simpa using h1
                · rw [h4H.out, hms.out]
                  exact ((hTx.out.kept hg6H.out (fun x g hx e => by injection e with e; exact (hTnH.out x g hx).1 e)).below (bl_al (bl_refl _) _)).kept hg7H.out (fun x g hx e => by injection e with e; exact (hTnH.out x g hx).2 e)
                · intro x g hx
                  refine ⟨fun e => ?_, (hTnH.out x g hx).1⟩
                  rcases hat7H.out with h | h
                  · rw [h] at e; injection e with e; exact (hTnH.out x g hx).2 e.symm
                  · rw [h] at e
                    injection e with e
                    have := hTlH.out x g hx
                    simp at e
                    omega
                · intro e
                  rcases hat7H.out with h | h
                  · exact hQM2.out (h.symm.trans e)
                  · rw [h] at e
                    injection e with e
                    simp at e
                    omega
                · rw [hToH.out u (List.mem_of_getElem? hudH.out)]; exact hTu2.out
                · have b1 : Below w.heap.size w (w2.alloc (Obj.cells #[.int .i64 sx, .int .i64 sy, .pointer (some ⟨gu', 0, none⟩), .int .i64 (oppN dn : Int), .int .i64 (s' + 1)] 85)).drew := (hby.out.trans (hb3H.out.mono hszy)).trans (hwx.out.mono (by omega))
                  have b2 : Below w.heap.size w w6 := b1.grown hg6H.out (by simp; omega) (fun q e => by injection e with e; omega)
                  exact (b2.alloc (by omega) _).grown hg7H.out (by simp; omega) (fun q e => by (have e1 : some gq = some q := e); injection e1 with e1; omega)
        · obtain rfl : dn = 4 := by omega
          go_wp2
          go_roundg (n - (k + 1))
          case measure => omega
          case rel =>
            have h5 := h4'H.out (by simp)
            exact ⟨k + 1, N2, T2, by omega, by rw [← h5]; exact hN2, Lib.hid (by rw [← h5]; exact hQ2.out), Lib.hid (by rw [← h5]; exact hM2.out), Lib.hid (by rw [← h5]; exact hT2.out), hD2, hQM2, hby⟩
    · have hend := Lib.hid (wayS_end hI0H.out (nb := nbP ps) (k := k) (by rw [hstH.out]; omega))
      obtain rfl : N = 0 := by omega
      go_wp2
      go_ret
      refine ⟨B1, _, T, rfl, hM.out, by rw [hlH.out]; exact hlen, ?_, hbw.out⟩
      rw [hlH.out, hs0H.out, ← hend.out, hstH.out]
      exact hT.out
end Go.Proofs.Ytpnilnpgiampgaa
/- Walks: the reference's ways from a root. -/


namespace Go.Proofs.Ytpnilnpgiampgaa
open Go.RowKit Go.Shelf
attribute [local go_sem] BelowBy.cell BelowBy.cell_drew stillUpon givesUpon

def intsQ (l : List Int) : List Value := l.map (Value.int .i64)
theorem intsQ_len (l : List Int) : (intsQ l).length = l.length := by simp [intsQ]
theorem intsQ_snoc (l : List Int) (x : Int) : intsQ l ++ [Value.int .i64 x] = intsQ (l ++ [x]) := by simp [intsQ]
theorem intsQ_get {l : List Int} {k : Nat} {x : Int} (h : l[k]? = some x) : (intsQ l)[k]? = some (.int .i64 x) := by simp [intsQ, h]
theorem intsQ_set (l : List Int) (k : Nat) (x : Int) : (intsQ l).set k (.int .i64 x) = intsQ (l.set k x) := by simp [intsQ, List.map_set]
theorem intsQ_rep (k : Nat) : intsQ (List.replicate k (-1)) ++ [Value.int .i64 (-1)] = intsQ (List.replicate (k + 1) (-1)) := by
  rw [intsQ_snoc, List.replicate_succ']
def WaysR (w : World) (ps : List Pt) (r : Nat) (e : Ending) (w' : World) : Prop := ∃ (A1 : Option Addr) (c1 : Nat) (A2 : Option Addr) (c2 : Nat), e = .returned (.tuple #[.slice A1 ps.length c1, .slice A2 ps.length c2]) ∧
  w'.ownsRow w.heap.size 2 1 (.slice A1 ps.length c1) ps.length (intsQ (ways (nbP ps) ps.length r).1) ∧ w'.ownsRow w.heap.size 2 1 (.slice A2 ps.length c2) ps.length (intsQ (ways (nbP ps) ps.length r).2) ∧ Below w.heap.size w w'
theorem l22Place_at {A : Option Addr} {n c : Nat} {ps : List Pt} {x y r : Int} {w : World} (h2 : RdSl 2 RPt w A n ps) (hS : Shp ps) (h5 : n ≤ 100000) (hr : idxI ps x y = r) :
    Calls Try.prog 70 #[.slice A n c, .agg #[.int .i64 x, .int .i64 y]] w fun e w' => e = .returned (.int .i64 r) ∧ Below w.heap.size w w' := hr ▸ l22Place_any A n c ps x y w h2 hS h5
theorem oppI_back (d : Nat) (hd : d < 4) : oppI (d : Int) = backI d := by
  have : d = 0 ∨ d = 1 ∨ d = 2 ∨ d = 3 := by omega
  rcases this with rfl | rfl | rfl | rfl <;> rfl
theorem Opposite_back (d : Nat) (w : World) (hd : d < 4) : Calls Try.prog 71 #[.int .i64 (d : Int)] w fun e w' => e = .returned (.int .i64 (backI d)) ∧ w = w' := by
  rw [← oppI_back d hd]; exact Opposite_any _ _ (by omega)
theorem kept_set {w : World} {base : Nat} {e : TypeId} {size : Nat} {v : Value} {n : Nat} {xs : List Value} (h : w.ownsRow base e size v n xs) (b o : Nat) (u : Value) (hne : v.ownBlock ≠ some b) : (w.setCell ⟨b, o, none⟩ u).ownsRow base e size v n xs :=
  h.kept (gby_setCell w b o u) (.inr hne)
set_option maxRecDepth 100000 in
set_option maxHeartbeats 4000000 in
theorem l22Ways_any (A : Option Addr) (n c : Nat) (ps : List Pt) (r : Nat) (w : World) (hA : RdSl 2 RPt w A n ps) (hS : Shp ps) (hn : n ≤ 100000) (hrn : r < n) :
    Calls Try.prog 49 #[.slice A n c, .int .i64 (r : Int)] w (WaysR w ps r) := by
  obtain ⟨i1, hi', hz0', hz1', hz2'⟩ := info_parts infoI
  have hl := hA.len
  have hlH := Lib.hid hl
  have hAH := Lib.hid hA
  have hSH := Lib.hid hS
  clear hA hl hS
  go_enter Try.func49, Try.ntmps49
  go_wp2
  go_loopg [6, 7, 8] n (fun g v u i wr => ∃ (k : Nat), k + g = n ∧ i = .int .i64 (k : Int) ∧ Hid (wr.ownsRow w.heap.size 2 1 v k (intsQ (List.replicate k (-1)))) ∧ Hid (wr.ownsRow w.heap.size 2 1 u k (intsQ (List.replicate k (-1)))) ∧ Hid (∃ g1 g2, v.ownBlock = some g1 ∧ u.ownBlock = some g2 ∧ g1 ≠ g2) ∧ Hid (Below w.heap.size w wr))
  case atStart => exact ⟨0, by omega, rfl, Lib.hid ((World.ownsRow_made _ _ _ (Nat.le_refl _) (by decide) rfl).alloc _), Lib.hid (by have := World.ownsRow_made (base := w.heap.size) (e := 2) (size := 1) (w.alloc (Obj.cells #[] 2)) #[] 0 (by simp) (by decide) rfl; simpa [intsQ] using this), Lib.hid ⟨w.heap.size, w.heap.size + 1, rfl, rfl, by omega⟩, Lib.hid (bl_al (bl_al (bl_refl _) _) _)⟩
  case round =>
    obtain ⟨k, hk, rfl, hP, hT, hne, hbw⟩ := hrel
    have hszl := hbw.out.size
    obtain ⟨g1, g2, e1, e2, hg⟩ := hne.out
    obtain ⟨A1, c1, rfl⟩ := ownsRow_form hP.out
    obtain ⟨A2, c2, rfl⟩ := ownsRow_form hT.out
    have e1H := Lib.hid e1
    have e2H := Lib.hid e2
    have l1 := hP.out.lt g1 e1
    have l2 := hT.out.lt g2 e2
    clear e1 e2 hne
    by_cases hkn : k < n
    · go_wp2_with (first
        | (at_builtin; (refine wpList_append_own_at _ rfl (.tmp 22) _ 48 rfl w.heap.size 2 i1 (.int .i64 0) 1 8 Try.underlying48 hi' hz0' hz1' hz2' rfl (by decide) (.slice A1 k c1) k (intsQ (List.replicate k (-1))) rfl (hP.out.alloc _) ⟨wr.heap.size, 0, none⟩ 1 1 [.int .i64 (-1)] rfl rfl (cell_one_new _ _ _) (fun x hx => by simp at hx; subst hx; rfl) (by unfold maxLen; omega) (by omega) (by simp; omega) ?_; intro v5 w5 hown5 hgrow5 _ hat5; have hs5 : wr.heap.size + 1 ≤ w5.heap.size := (by have := hgrow5.size; simpa using this); have hT5 := Lib.hid ((hT.out.alloc (Obj.cells #[.int .i64 (-1)] 2)).kept hgrow5 (.inr (by rw [e1H.out, e2H.out]; intro e; injection e with e; exact hg e.symm))); have hown5H := Lib.hid hown5; have hgrow5H := Lib.hid hgrow5; have hat5H := Lib.hid hat5; clear hown5 hgrow5 hat5))
        | (at_builtin; refine wpList_append_own_at _ rfl (.tmp 25) _ 48 rfl w.heap.size 2 i1 (.int .i64 0) 1 8 Try.underlying48 hi' hz0' hz1' hz2' rfl (by decide) (.slice A2 k c2) k (intsQ (List.replicate k (-1))) rfl (hT5.out.alloc _) ⟨w5.heap.size, 0, none⟩ 1 1 [.int .i64 (-1)] rfl rfl (cell_one_new _ _ _) (fun x hx => by simp at hx; subst hx; rfl) (by unfold maxLen; omega) (by omega) (by simp; omega) ?_; intro v6 w6 hown6 hgrow6 _ hat6; have hown6H := Lib.hid hown6; have hgrow6H := Lib.hid hgrow6; have hat6H := Lib.hid hat6; clear hown6 hgrow6 hat6))
      have hv5 : ∃ g5, v5.ownBlock = some g5 ∧ g5 ≠ g2 ∧ g5 < w5.heap.size := by
        obtain ⟨A5, c5, hv5⟩ := ownsRow_form hown5H.out
        have hl5 : ∃ g5, v5.ownBlock = some g5 := by
          rcases hown5H.out.2 with ⟨_, h0⟩ | ⟨g, cap, cur, hv, _⟩
          · omega
          · exact ⟨g, by rw [hv]; rfl⟩
        obtain ⟨g5, h5⟩ := hl5
        refine ⟨g5, h5, ?_, (hown5H.out.lt g5 h5).2⟩
        rcases hat5H.out with h | h
        · rw [h, e1H.out] at h5; injection h5 with h5; omega
        · rw [h] at h5; injection h5 with h5; simp at h5; omega
      have hv6 : ∃ g6, v6.ownBlock = some g6 ∧ (g6 = g2 ∨ w5.heap.size ≤ g6) := by
        have hl6 : ∃ g6, v6.ownBlock = some g6 := by
          rcases hown6H.out.2 with ⟨_, h0⟩ | ⟨g, cap, cur, hv, _⟩
          · omega
          · exact ⟨g, by rw [hv]; rfl⟩
        obtain ⟨g6, h6⟩ := hl6
        refine ⟨g6, h6, ?_⟩
        rcases hat6H.out with h | h
        · rw [h, e2H.out] at h6; injection h6 with h6; exact .inl h6.symm
        · rw [h] at h6; injection h6 with h6; simp at h6; exact .inr (by omega)
      obtain ⟨g5, h5, h52, h5l⟩ := hv5
      obtain ⟨g6, h6, h6l⟩ := hv6
      go_roundg (n - (k + 1))
      case measure => omega
      case rel =>
        refine ⟨k + 1, by omega, by go_num, Lib.hid ?_, Lib.hid ?_, Lib.hid ⟨g5, g6, h5, h6, by omega⟩, Lib.hid ?_⟩
        · have := (hown5H.out.alloc (Obj.cells #[.int .i64 (-1)] 2)).kept hgrow6H.out (.inr (by rw [h5, e2H.out]; intro e; injection e with e; exact h52 e))
          rw [intsQ_rep] at this
          exact this
        · have := hown6H.out
          rw [intsQ_rep] at this
          exact this
        · have b1 : Below w.heap.size w w5 := (hbw.out.alloc hszl _).grown hgrow5H.out (by simp; omega) (fun q e => by rw [e1H.out] at e; injection e with e; omega)
          exact (b1.alloc (by omega) _).grown hgrow6H.out (by simp; omega) (fun q e => by rw [e2H.out] at e; injection e with e; omega)
    · obtain rfl : k = n := by omega
      obtain ⟨gp, cp, hv1⟩ : ∃ g cap, Value.slice A1 k c1 = .slice (some ⟨g, 0, none⟩) k cap := by
        rcases hP.out.2 with ⟨_, h0⟩ | ⟨g, cap, cur, hv, _⟩
        · omega
        · exact ⟨g, cap, hv⟩
      injection hv1 with ha1 ha2 ha3
      subst ha1 ha3
      obtain ⟨gs, cs, hv2⟩ : ∃ g cap, Value.slice A2 k c2 = .slice (some ⟨g, 0, none⟩) k cap := by
        rcases hT.out.2 with ⟨_, h0⟩ | ⟨g, cap, cur, hv, _⟩
        · omega
        · exact ⟨g, cap, hv⟩
      injection hv2 with ha4 ha5 ha6
      subst ha4 ha6
      obtain rfl : gp = g1 := by have := e1H.out; injection this
      obtain rfl : gs = g2 := by have := e2H.out; injection this
      clear ha2 ha5 e1H e2H
      have hr0 : wr.cell? ⟨gs, r, none⟩ = some (.int .i64 (-1)) := (hT.out.cellAt r (by omega)).trans (intsQ_get (by rw [List.getElem?_replicate, if_pos hrn]))
      have hr1 := hT.out.frozenAt r
      have hr2 := l2.2
      have hrI : (r : Int) < (k : Int) := by omega
      have hI0 := Lib.hid (WayInv.start hrn)
      obtain ⟨st0, hst0⟩ : ∃ st0, way0 k r = st0 := ⟨_, rfl⟩
      have hT6 := Lib.hid (((hT.out.stored r (.int .i64 0)).1).alloc (Obj.cells #[.int .i64 (r : Int)] 2))
      have hP6 := Lib.hid ((kept_set hP.out gs r (.int .i64 0) (by intro e; (have e1 : some gp = some gs := e); injection e1 with e1; omega)).alloc (Obj.cells #[.int .i64 (r : Int)] 2))
      have hR6 := Lib.hid (World.ownsRow_lit (base := wr.heap.size) (e := 2) (size := 1) (wr.setCell ⟨gs, r, none⟩ (.int .i64 0)) #[.int .i64 (r : Int)] 1 (by simp) (by decide) rfl)
      have hb6 := Lib.hid ((hbw.out.setCell (p := ⟨gs, r, none⟩) l2.1 (.int .i64 0)).alloc (by simp; omega) (Obj.cells #[.int .i64 (r : Int)] 2))
      rw [intsQ_set] at hT6
      rw [hst0] at hI0
      have hT7 : Hid (((wr.setCell ⟨gs, r, none⟩ (.int .i64 0)).alloc (Obj.cells #[.int .i64 (r : Int)] 2)).ownsRow w.heap.size 2 1 (.slice (some ⟨gs, 0, none⟩) k c2) k (intsQ st0.2.2)) := Lib.hid (by rw [← hst0]; exact hT6.out)
      have hP7 : Hid (((wr.setCell ⟨gs, r, none⟩ (.int .i64 0)).alloc (Obj.cells #[.int .i64 (r : Int)] 2)).ownsRow w.heap.size 2 1 (.slice (some ⟨gp, 0, none⟩) k c1) k (intsQ st0.2.1)) := Lib.hid (by rw [← hst0]; exact hP6.out)
      have hR7 : Hid (((wr.setCell ⟨gs, r, none⟩ (.int .i64 0)).alloc (Obj.cells #[.int .i64 (r : Int)] 2)).ownsRow wr.heap.size 2 1 (.slice (some ⟨wr.heap.size, 0, none⟩) 1 1) st0.1.length (numsV st0.1)) := Lib.hid (by rw [← hst0]; simpa [numsV, way0] using hR6.out)
      have hst0H := Lib.hid hst0
      clear hT6 hP6 hR6 hT hP hbw hst0
      go_wp2
      obtain ⟨W0, hW0⟩ : ∃ W0 : World, wr = W0 := ⟨_, rfl⟩
      rw [hW0] at hT7 hP7 hR7 hb6 l1 l2 hszl ⊢
      have hss : W0.heap.size = wr.heap.size := by rw [hW0]
      clear hW0 hr0 hr1 hr2
      obtain ⟨s0, hs0⟩ : ∃ s0, W0.heap.size = s0 := ⟨_, rfl⟩
      have hsW : s0 + 1 = ((W0.setCell ⟨gs, r, none⟩ (.int .i64 0)).alloc (Obj.cells #[.int .i64 (r : Int)] 2)).heap.size := by rw [← hs0]; simp
      rw [hs0] at hR7 l1 l2 hszl ⊢
      clear hs0 hss
      obtain ⟨W7, hW7⟩ : ∃ W7, (W0.setCell ⟨gs, r, none⟩ (.int .i64 0)).alloc (Obj.cells #[.int .i64 (r : Int)] 2) = W7 := ⟨_, rfl⟩
      rw [hW7] at hT7 hP7 hR7 hb6 hsW ⊢
      clear hW7
      have hsW' : s0 + 1 ≤ W7.heap.size := by omega
      clear hsW
      go_loopg [10, 9] k (fun g i v wx => ∃ (q : Nat), q + g = k ∧ i = .int .i64 (q : Int) ∧ Hid (wx.ownsRow s0 2 1 v (wayS (nbP ps) st0 q).1.length (numsV (wayS (nbP ps) st0 q).1)) ∧ Hid (wx.ownsRow w.heap.size 2 1 (.slice (some ⟨gp, 0, none⟩) k c1) k (intsQ (wayS (nbP ps) st0 q).2.1)) ∧ Hid (wx.ownsRow w.heap.size 2 1 (.slice (some ⟨gs, 0, none⟩) k c2) k (intsQ (wayS (nbP ps) st0 q).2.2)) ∧ Hid (Below w.heap.size w wx) ∧ s0 ≤ wx.heap.size)
      case atStart => exact ⟨0, by omega, rfl, hR7, hP7, hT7, hb6, by omega⟩
      case round =>
        clear hR7 hP7 hT7 hb6
        obtain ⟨q, hq, rfl, hR, hP, hT, hbx, hsx⟩ := hrel
        have hszx := hbx.out.size
        have hIq := Lib.hid (hI0.out.all (nb := nbP ps) q)
        have hlen := hIq.out.length
        obtain ⟨st, hst⟩ : ∃ st, wayS (nbP ps) st0 q = st := ⟨_, rfl⟩
        rw [hst] at hR hP hT hIq hlen
        have hstH := Lib.hid hst
        clear hst
        obtain ⟨A9, c9, rfl⟩ := ownsRow_form hR.out
        by_cases hqn : q < st.1.length
        · obtain ⟨g9, cap9, hv9⟩ : ∃ g9 cap9, Value.slice A9 st.1.length c9 = .slice (some ⟨g9, 0, none⟩) st.1.length cap9 := by
            rcases hR.out.2 with ⟨_, h0⟩ | ⟨g, cap, cur, hv, _⟩
            · omega
            · exact ⟨g, cap, hv⟩
          injection hv9 with hv1 hv2 hv3
          subst hv1 hv3
          clear hv2
          obtain ⟨u, hu⟩ : ∃ u, st.1[q]? = some u := ⟨_, List.getElem?_eq_getElem hqn⟩
          have hum := List.mem_of_getElem? hu
          have huk : u < k := hIq.out.lt u hum
          obtain ⟨eu, heu⟩ : ∃ eu, ps[u]? = some eu := ⟨_, List.getElem?_eq_getElem (by rw [hlH.out]; exact huk)⟩
          have hptu := hSH.out.pt u eu heu
          have l9 := hR.out.lt g9 rfl
          have r9 := (hR.out.cellAt q (by omega)).trans (numsV_get hu)
          have r9f := hR.out.frozenAt q
          have r9l := l9.2
          have huH := Lib.hid hu
          have heuH := Lib.hid heu
          clear hu heu hum
          go_wp2
          go_loopg [12, 9] 4 (fun g i v wy => ∃ (d : Nat), d + g = 4 ∧ i = .int .i64 (d : Int) ∧ Hid (wy.ownsRow s0 2 1 v (way4 (nbP ps) q st d).1.length (numsV (way4 (nbP ps) q st d).1)) ∧ Hid (wy.ownsRow w.heap.size 2 1 (.slice (some ⟨gp, 0, none⟩) k c1) k (intsQ (way4 (nbP ps) q st d).2.1)) ∧ Hid (wy.ownsRow w.heap.size 2 1 (.slice (some ⟨gs, 0, none⟩) k c2) k (intsQ (way4 (nbP ps) q st d).2.2)) ∧ Hid (Below w.heap.size w wy) ∧ s0 ≤ wy.heap.size)
          case atStart => exact ⟨0, by omega, rfl, hR, hP, hT, hbx, hsx⟩
          case round =>
            clear hR hP hT hbx hsx hszx l9 r9 r9f r9l
            obtain ⟨d, hd, rfl, hR, hP, hT, hby, hsy⟩ := hrel
            have hszy := hby.out.size
            have hId := Lib.hid (hIq.out.four (nb := nbP ps) q d)
            have hlend := hId.out.length
            have hud := way4_at (nb := nbP ps) huH.out d
            have h4 : way4 (nbP ps) q st (d + 1) = way1 (nbP ps) q d (way4 (nbP ps) q st d) := rfl
            have h4' : d = 4 → way4 (nbP ps) q st d = wayS (nbP ps) st0 (q + 1) := fun e => by subst e; rw [← hstH.out]; rfl
            obtain ⟨sd, hsd⟩ : ∃ sd, way4 (nbP ps) q st d = sd := ⟨_, rfl⟩
            rw [hsd] at hR hP hT hId hlend hud h4 h4'
            have h4H := Lib.hid h4
            have h4'H := Lib.hid h4'
            clear hsd h4 h4'
            obtain ⟨A9, c9, rfl⟩ := ownsRow_form hR.out
            by_cases hd4 : d < 4
            · have hdI : (d : Int) < 4 := by omega
              have hum := List.mem_of_getElem? hud
              obtain ⟨s', hsu', hs'0, hs'1⟩ := hId.out.is u hum
              have t9 := (hT.out.cellAt u (by omega)).trans (intsQ_get hsu')
              have tl := (hT.out.lt gs rfl).2
              have pl := (hP.out.lt gp rfl).2
              obtain ⟨sx, hsxe⟩ : ∃ sx, stepX eu.x (d : Nat) = sx := ⟨_, rfl⟩
              obtain ⟨sy, hsye⟩ : ∃ sy, stepY eu.y (d : Nat) = sy := ⟨_, rfl⟩
              have hsr : (-62 ≤ sx ∧ sx ≤ 62) ∧ (-62 ≤ sy ∧ sy ≤ 62) := by
                rw [← hsxe, ← hsye]
                have : d = 0 ∨ d = 1 ∨ d = 2 ∨ d = 3 := by omega
                rcases this with rfl | rfl | rfl | rfl <;> simp [stepX, stepY] <;> omega
              have hsxH := Lib.hid hsxe
              have hsyH := Lib.hid hsye
              have hudH := Lib.hid hud
              have hsu'H := Lib.hid hsu'
              have hAy := hAH.out.below RPt.stable hby.out
              obtain ⟨bb, ob, rfl, hbb, hbc⟩ := hAy.ptr (by omega)
              obtain ⟨e0, e1⟩ := hbc u eu heuH.out
              have hAyH := Lib.hid hAy
              have uI : (u : Int) < (k : Int) := by omega
              clear hsxe hsye hud hsu' hum hbc hAy
              cases hix : idxP ps sx sy with
              | none =>
                have hms := Lib.hid (way1_none (d := d) hudH.out heuH.out (by rw [hsxH.out, hsyH.out]; exact hix))
                have hri := Lib.hid (idxI_none hix)
                clear hix
                go_wp2_with (first
                  | (go_at_call 55; refine (l01Step_to _ hd4 ⟨by omega, by omega⟩ ⟨by omega, by omega⟩ hsxH.out hsyH.out).mono ?_; rintro e' w1 ⟨rfl, hb1⟩; obtain ⟨c1, f1, s1, t1⟩ := bcell hb1; have hs1 := hb1.size; have hb1H := Lib.hid hb1; clear hb1)
                  | (go_at_call 70; refine (l22Place_at (ps := ps) (hAyH.out.below RPt.stable hb1H.out) hSH.out hn hri.out).mono ?_; rintro e' w2 ⟨rfl, hb2⟩; obtain ⟨c2, f2, s2, t2⟩ := bcell hb2; have hs2 := hb2.size; have hb2H := Lib.hid hb2; clear hb2))
                have hb3H : Hid (Below wr.heap.size wr w2) := Lib.hid ((hb1H.out).trans (hb2H.out.mono hs1))
                go_roundg (4 - (d + 1))
                case measure => omega
                case rel => exact ⟨d + 1, by omega, by go_num, Lib.hid (by rw [h4H.out, hms.out]; exact ownsRow_below hR.out hb3H.out), Lib.hid (by rw [h4H.out, hms.out]; exact ownsRow_below hP.out hb3H.out), Lib.hid (by rw [h4H.out, hms.out]; exact ownsRow_below hT.out hb3H.out), Lib.hid (hby.out.trans (hb3H.out.mono hszy)), by omega⟩
              | some v =>
                have hvp := idxP_some hix
                have hvn : v < k := by rw [← hlH.out]; exact lt_of_get hvp
                have hixH := Lib.hid (show idxP ps (stepX eu.x d) (stepY eu.y d) = some v by rw [hsxH.out, hsyH.out]; exact hix)
                have hri := Lib.hid (idxI_some hix)
                clear hvp hix
                have vI : (v : Int) < (k : Int) := by omega
                have vI0 : (0 : Int) ≤ (v : Int) := by omega
                by_cases hvm : v ∈ sd.1
                · obtain ⟨sv, hsv, hsv0, hsv1⟩ := hId.out.is v hvm
                  have r2 := (hT.out.cellAt v (by omega)).trans (intsQ_get hsv)
                  have hms := Lib.hid (way1_old (d := d) hudH.out heuH.out hixH.out hsv (by omega))
                  clear hsv hvm
                  go_wp2_with (first
                    | (go_at_call 55; refine (l01Step_to _ hd4 ⟨by omega, by omega⟩ ⟨by omega, by omega⟩ hsxH.out hsyH.out).mono ?_; rintro e' w1 ⟨rfl, hb1⟩; obtain ⟨c1, f1, s1, t1⟩ := bcell hb1; have hs1 := hb1.size; have hb1H := Lib.hid hb1; clear hb1)
                    | (go_at_call 70; refine (l22Place_at (ps := ps) (hAyH.out.below RPt.stable hb1H.out) hSH.out hn hri.out).mono ?_; rintro e' w2 ⟨rfl, hb2⟩; have hb3 := hb1H.out.trans (hb2.mono hs1); have q2 := (hb3.cell (p := ⟨gs, v, none⟩) tl).trans r2; have ql : gs < w2.heap.size := Nat.lt_of_lt_of_le tl hb3.size; have hb3H := Lib.hid hb3; clear hb2 hb3))
                  have hs3 := hb3H.out.size
                  go_roundg (4 - (d + 1))
                  case measure => omega
                  case rel => exact ⟨d + 1, by omega, by go_num, Lib.hid (by rw [h4H.out, hms.out]; exact ownsRow_below hR.out hb3H.out), Lib.hid (by rw [h4H.out, hms.out]; exact ownsRow_below hP.out hb3H.out), Lib.hid (by rw [h4H.out, hms.out]; exact ownsRow_below hT.out hb3H.out), Lib.hid (hby.out.trans (hb3H.out.mono hszy)), by omega⟩
                · have hv1 := (hId.out.other v hvn hvm).1
                  have hv2 := (hId.out.other v hvn hvm).2
                  have hms := Lib.hid (way1_new (d := d) hudH.out heuH.out hixH.out hv1 hsu'H.out)
                  have r2 := (hT.out.cellAt v (by omega)).trans (intsQ_get hv1)
                  have r3 := (hP.out.cellAt v (by omega)).trans (intsQ_get hv2)
                  obtain ⟨g9, cap9, hv9⟩ : ∃ g9 cap9, Value.slice A9 sd.1.length c9 = .slice (some ⟨g9, 0, none⟩) sd.1.length cap9 := by
                    rcases hR.out.2 with ⟨_, h0⟩ | ⟨g, cap, cur, hv, _⟩
                    · have := (List.getElem?_eq_some_iff.1 hudH.out).1
                      omega
                    · exact ⟨g, cap, hv⟩
                  injection hv9 with hw1 hw2 hw3
                  subst hw1 hw3
                  clear hw2
                  have l9 := hR.out.lt g9 rfl
                  have hvmH := Lib.hid hvm
                  have fT := hT.out.frozenAt v
                  have fP := hP.out.frozenAt v
                  clear hv1 hv2 hvm
                  go_wp2_with (first
                    | (go_at_call 55; refine (l01Step_to _ hd4 ⟨by omega, by omega⟩ ⟨by omega, by omega⟩ hsxH.out hsyH.out).mono ?_; rintro e' w1 ⟨rfl, hb1⟩; obtain ⟨c1, f1, s1, t1⟩ := bcell hb1; have hs1 := hb1.size; have hb1H := Lib.hid hb1; clear hb1)
                    | (go_at_call 70; refine (l22Place_at (ps := ps) (hAyH.out.below RPt.stable hb1H.out) hSH.out hn hri.out).mono ?_; rintro e' w2 ⟨rfl, hb2⟩; have hb3 := hb1H.out.trans (hb2.mono hs1); have q2 := (hb3.cell (p := ⟨gs, v, none⟩) tl).trans r2; have q9 := (hb3.cell (p := ⟨gs, u, none⟩) tl).trans t9; have qf := (hb3.frozen (p := ⟨gs, v, none⟩) tl).trans fT; have ql : gs < w2.heap.size := Nat.lt_of_lt_of_le tl hb3.size; have q3 := (hb3.cell (p := ⟨gp, v, none⟩) pl).trans r3; have qf3 := (hb3.frozen (p := ⟨gp, v, none⟩) pl).trans fP; have ql3 : gp < w2.heap.size := Nat.lt_of_lt_of_le pl hb3.size; have hs3 := hb3.size; have hT4 := Lib.hid (kept_set ((ownsRow_below hT.out hb3).stored v (.int .i64 (s' + 1))).1 gp v (.int .i64 (backI d)) (by intro e; (have e1 : some gs = some gp := e); injection e1 with e1; exact hg e1.symm)); have hP4 := Lib.hid (((kept_set (ownsRow_below hP.out hb3) gs v (.int .i64 (s' + 1)) (by intro e; (have e1 : some gp = some gs := e); injection e1 with e1; exact hg e1)).stored v (.int .i64 (backI d))).1); have hR4 := Lib.hid (kept_set (kept_set (ownsRow_below hR.out hb3) gs v (.int .i64 (s' + 1)) (by intro e; (have e1 : some g9 = some gs := e); injection e1 with e1; omega)) gp v (.int .i64 (backI d)) (by intro e; (have e1 : some g9 = some gp := e); injection e1 with e1; omega)); have hb4 := Lib.hid (((hby.out.trans (hb3.mono hszy)).setCell (p := ⟨gs, v, none⟩) l2.1 (.int .i64 (s' + 1))).setCell (p := ⟨gp, v, none⟩) l1.1 (.int .i64 (backI d))); have hb3H := Lib.hid hb3; clear hb2 hb3)
                    | (go_at_call 71; refine (Opposite_back _ _ hd4).mono ?_; rintro e' _ ⟨rfl, rfl⟩)
                    | (at_builtin; refine wpList_append_own_at _ rfl _ _ 48 rfl s0 2 i1 (.int .i64 0) 1 8 Try.underlying48 hi' hz0' hz1' hz2' rfl (by decide) (.slice (some ⟨g9, 0, none⟩) sd.1.length c9) sd.1.length (numsV sd.1) rfl (hR4.out.alloc _) ⟨w2.heap.size, 0, none⟩ 1 1 [.int .i64 (v : Int)] rfl rfl (by have := cell_one_new ((w2.setCell ⟨gs, v, none⟩ (.int .i64 (s' + 1))).setCell ⟨gp, v, none⟩ (.int .i64 (backI d))) (.int .i64 (v : Int)) 2; simpa using this) (fun x hx => by simp at hx; subst hx; rfl) (by unfold maxLen; omega) (by omega) (by simp; omega) ?_; intro v5 w8 hown8 hgrow8 _ hat8; have hown8H := Lib.hid hown8; have hgrow8H := Lib.hid hgrow8; clear hown8 hgrow8 hat8))
                  have hs8 : w2.heap.size + 1 ≤ w8.heap.size := by have := hgrow8H.out.size; simpa using this
                  go_roundg (4 - (d + 1))
                  case measure => omega
                  case rel =>
                    refine ⟨d + 1, by omega, by go_num, Lib.hid ?_, Lib.hid ?_, Lib.hid ?_, Lib.hid ((hb4.out.alloc (by simp; omega) _).grown hgrow8H.out (by simp; omega) fun g e => by (have e1 : some g9 = some g := e); injection e1 with e1; omega), by omega⟩
                    · rw [h4H.out, hms.out]
                      have := hown8H.out
                      rw [numsV_snoc] at this
                      simpa using this
                    · rw [h4H.out, hms.out]
                      have h1 := hP4.out
                      rw [intsQ_set] at h1
                      exact (h1.alloc _).kept hgrow8H.out (.inr (by intro e; (have e1 : some gp = some g9 := e); injection e1 with e1; omega))
                    · rw [h4H.out, hms.out]
                      have h1 := hT4.out
                      rw [intsQ_set] at h1
                      exact (h1.alloc _).kept hgrow8H.out (.inr (by intro e; (have e1 : some gs = some g9 := e); injection e1 with e1; omega))
            · obtain rfl : d = 4 := by omega
              go_wp2
              go_roundg (k - (q + 1))
              case measure => omega
              case rel =>
                refine ⟨q + 1, by omega, by go_num, Lib.hid ?_, Lib.hid ?_, Lib.hid ?_, hby, hsy⟩
                · rw [← h4'H.out (by simp)]; exact hR.out
                · rw [← h4'H.out (by simp)]; exact hP.out
                · rw [← h4'H.out (by simp)]; exact hT.out
        · have hend := Lib.hid (wayS_end hI0.out (nb := nbP ps) (k := q) (by rw [hstH.out]; omega))
          go_wp2
          go_ret2
          refine ⟨some ⟨gp, 0, none⟩, c1, some ⟨gs, 0, none⟩, c2, by rw [hlH.out]; rfl, ?_, ?_, hbx.out⟩
          · rw [hlH.out]
            unfold ways
            rw [hst0H.out, ← hend.out, hstH.out]
            exact hP.out
          · rw [hlH.out]
            unfold ways
            rw [hst0H.out, ← hend.out, hstH.out]
            exact hT.out
end Go.Proofs.Ytpnilnpgiampgaa
/- Walks: a shape and a root of it; the greatest number of steps from a point, of both. -/



namespace Go.Proofs.Ytpnilnpgiampgaa
open Go.RowKit Go.Shelf
attribute [local go_sem] BelowBy.cell BelowBy.cell_drew stillUpon givesUpon

/-- the code of a shape and a place of it -/
def treeC (ps : List Pt) (r : Int) : Int := if shapeB ps && oneB ps then (if inB r 0 ((ps.length : Int) - 1) then 0 else 2) else 1
theorem treeC_zero {ps : List Pt} {r : Int} (h : treeC ps r = 0) : Shp ps ∧ oneB ps = true ∧ 1 ≤ ps.length ∧ ps.length ≤ 500 ∧ ∃ rn : Nat, r = (rn : Int) ∧ rn < ps.length := by
  unfold treeC at h
  split at h
  · rename_i h1
    simp only [Bool.and_eq_true] at h1
    split at h
    · rename_i h2
      rw [inB_true] at h2
      obtain ⟨a, b, c⟩ := shp_of h1.1
      exact ⟨a, h1.2, b, c, r.toNat, by omega, by omega⟩
    · omega
  · omega
theorem treeC_cases (ps : List Pt) (r : Int) : treeC ps r = 0 ∨ treeC ps r = 1 ∨ treeC ps r = 2 := by
  unfold treeC; split
  · split
    · exact .inl rfl
    · exact .inr (.inr rfl)
  · exact .inr (.inl rfl)
theorem rootCode_any (A : Option Addr) (n c : Nat) (ps : List Pt) (r : Int) (w : World) (h : RdSl 2 RPt w A n ps) (hn : n ≤ 1073741824) :
    Calls Try.prog 43 #[.slice A n c, .int .i64 r] w fun e w' => e = .returned (.int .i64 (treeC ps r)) ∧ Below w.heap.size w w' := by
  have hl := Lib.hid h.len
  have hH := Lib.hid h
  clear h
  cases hb : shapeB ps && oneB ps
  · have hT := Lib.hid (show treeC ps r = 1 by unfold treeC; rw [hb]; rfl)
    have hbH := Lib.hid hb
    clear hb
    go_enter Try.func43, Try.ntmps43
    go_wp2_with (go_at_call 46; refine (IsConnected_any _ _ _ ps _ hH.out hn).mono ?_; rw [hbH.out]; rintro e w1 ⟨rfl, hb1⟩; have hb1H := Lib.hid hb1; clear hb1)
    go_ret
    exact ⟨ret_int hT.out.symm, hb1H.out⟩
  · cases hi : inB r 0 ((n : Int) - 1)
    · have hT := Lib.hid (show treeC ps r = 2 by unfold treeC; rw [hb, hl.out, hi]; rfl)
      have hbH := Lib.hid hb
      have hiH := Lib.hid hi
      clear hb hi
      go_enter Try.func43, Try.ntmps43
      go_wp2_with (first
        | (go_at_call 46; refine (IsConnected_any _ _ _ ps _ hH.out hn).mono ?_; rw [hbH.out]; rintro e w1 ⟨rfl, hb1⟩; have hb1H := Lib.hid hb1; clear hb1)
        | (go_at_call 58; refine (isIndex_any _ _ _ (by omega) (by omega)).mono ?_; rw [hiH.out]; rintro e _ ⟨rfl, rfl⟩))
      go_ret
      exact ⟨ret_int hT.out.symm, hb1H.out⟩
    · have hT := Lib.hid (show treeC ps r = 0 by unfold treeC; rw [hb, hl.out, hi]; rfl)
      have hbH := Lib.hid hb
      have hiH := Lib.hid hi
      clear hb hi
      go_enter Try.func43, Try.ntmps43
      go_wp2_with (first
        | (go_at_call 46; refine (IsConnected_any _ _ _ ps _ hH.out hn).mono ?_; rw [hbH.out]; rintro e w1 ⟨rfl, hb1⟩; have hb1H := Lib.hid hb1; clear hb1)
        | (go_at_call 58; refine (isIndex_any _ _ _ (by omega) (by omega)).mono ?_; rw [hiH.out]; rintro e _ ⟨rfl, rfl⟩))
      go_ret
      exact ⟨ret_int hT.out.symm, hb1H.out⟩
theorem rootCode_at {A : Option Addr} {n c : Nat} {ps : List Pt} {r code : Int} {w : World} (h : RdSl 2 RPt w A n ps) (hn : n ≤ 1073741824) (hc : treeC ps r = code) :
    Calls Try.prog 43 #[.slice A n c, .int .i64 r] w fun e w' => e = .returned (.int .i64 code) ∧ Below w.heap.size w w' := hc ▸ rootCode_any A n c ps r w h hn
theorem l22Asked_any (A : Option Addr) (n c : Nat) (ps : List Pt) (r : Int) (w : World) (h : RdSl 2 RPt w A n ps) (hn : n ≤ 1073741824) :
    Calls Try.prog 40 #[.slice A n c, .int .i64 r] w fun e w' => e = .returned (.int .i64 (treeC ps r)) ∧ Below w.heap.size w w' := by
  have hl := Lib.hid h.len
  have hH := Lib.hid h
  clear h
  cases hb : shapeB ps
  · have hT := Lib.hid (show treeC ps r = 1 by unfold treeC; rw [hb]; rfl)
    have hbH := Lib.hid hb
    clear hb
    go_enter Try.func40, Try.ntmps40
    go_wp2_with (go_at_call 65; refine (l04Ok_any _ _ _ ps _ hH.out hn).mono ?_; rw [hbH.out]; rintro e w1 ⟨rfl, hb1⟩; have hb1H := Lib.hid hb1; clear hb1)
    go_ret
    exact ⟨ret_int hT.out.symm, hb1H.out⟩
  · obtain ⟨hS, hp1, hp2⟩ := shp_of hb
    rw [hl.out] at hp1 hp2
    have hSH := Lib.hid hS
    have hpl := Lib.hid (show (rowsQ ps (partsN ps)).length = (allP (nbP ps) ps.length ps.length).2.length by unfold rowsQ; rw [List.length_map, partsN_len])
    have hcount := allP_count (nbP ps) ps.length ps.length
    obtain ⟨m, hm⟩ : ∃ m, (allP (nbP ps) ps.length ps.length).2.length = m := ⟨_, rfl⟩
    rw [hm] at hpl hcount
    rw [hl.out] at hcount
    have hmH := Lib.hid hm
    clear hm hS
    have hbH := Lib.hid hb
    clear hb
    by_cases hm1 : m = 1
    · have hob := Lib.hid (show oneB ps = true by unfold oneB; rw [hmH.out]; exact decide_eq_true hm1)
      subst hm1
      cases hi : inB r 0 ((n : Int) - 1)
      · have hT := Lib.hid (show treeC ps r = 2 by unfold treeC; rw [hbH.out, hob.out, hl.out, hi]; rfl)
        have hiH := Lib.hid hi
        clear hi
        go_enter Try.func40, Try.ntmps40
        go_wp2_with (first
          | (go_at_call 65; refine (l04Ok_any _ _ _ ps _ hH.out hn).mono ?_; rw [hbH.out]; rintro e w1 ⟨rfl, hb1⟩; have hb1H := Lib.hid hb1; clear hb1)
          | (go_at_call 66; refine (l04Parts_any _ _ _ ps _ (hH.out.below RPt.stable hb1H.out) hSH.out (by omega)).mono ?_; rintro e w2 ⟨v2, us2, rfl, hO2, hb2⟩; obtain ⟨A2, c2, rfl⟩ := hO2.form (hO2.len.trans hpl.out); have hb2H := Lib.hid (hb1H.out.trans (hb2.mono hb1H.out.size)); clear hO2 hb2)
          | (go_at_call 52; refine (l00In_any _ _ _ _).mono ?_; rw [hiH.out]; rintro e _ ⟨rfl, rfl⟩))
        go_ret
        exact ⟨ret_int hT.out.symm, hb2H.out⟩
      · have hT := Lib.hid (show treeC ps r = 0 by unfold treeC; rw [hbH.out, hob.out, hl.out, hi]; rfl)
        have hiH := Lib.hid hi
        clear hi
        go_enter Try.func40, Try.ntmps40
        go_wp2_with (first
          | (go_at_call 65; refine (l04Ok_any _ _ _ ps _ hH.out hn).mono ?_; rw [hbH.out]; rintro e w1 ⟨rfl, hb1⟩; have hb1H := Lib.hid hb1; clear hb1)
          | (go_at_call 66; refine (l04Parts_any _ _ _ ps _ (hH.out.below RPt.stable hb1H.out) hSH.out (by omega)).mono ?_; rintro e w2 ⟨v2, us2, rfl, hO2, hb2⟩; obtain ⟨A2, c2, rfl⟩ := hO2.form (hO2.len.trans hpl.out); have hb2H := Lib.hid (hb1H.out.trans (hb2.mono hb1H.out.size)); clear hO2 hb2)
          | (go_at_call 52; refine (l00In_any _ _ _ _).mono ?_; rw [hiH.out]; rintro e _ ⟨rfl, rfl⟩))
        go_ret
        exact ⟨ret_int hT.out.symm, hb2H.out⟩
    · have hob := Lib.hid (show oneB ps = false by unfold oneB; rw [hmH.out]; exact decide_eq_false hm1)
      have hT := Lib.hid (show treeC ps r = 1 by unfold treeC; rw [hbH.out, hob.out]; rfl)
      have hmI : ((m : Int) == 1) = false := by simp; omega
      have hmI2 : ((m : Int) != 1) = true := by simp; omega
      go_enter Try.func40, Try.ntmps40
      go_wp2_with (first
        | (go_at_call 65; refine (l04Ok_any _ _ _ ps _ hH.out hn).mono ?_; rw [hbH.out]; rintro e w1 ⟨rfl, hb1⟩; have hb1H := Lib.hid hb1; clear hb1)
        | (go_at_call 66; refine (l04Parts_any _ _ _ ps _ (hH.out.below RPt.stable hb1H.out) hSH.out (by omega)).mono ?_; rintro e w2 ⟨v2, us2, rfl, hO2, hb2⟩; obtain ⟨A2, c2, rfl⟩ := hO2.form (hO2.len.trans hpl.out); have hb2H := Lib.hid (hb1H.out.trans (hb2.mono hb1H.out.size)); clear hO2 hb2))
      go_ret
      exact ⟨ret_int hT.out.symm, hb2H.out⟩
theorem l22Asked_at {A : Option Addr} {n c : Nat} {ps : List Pt} {r code : Int} {w : World} (h : RdSl 2 RPt w A n ps) (hn : n ≤ 1073741824) (hc : treeC ps r = code) :
    Calls Try.prog 40 #[.slice A n c, .int .i64 r] w fun e w' => e = .returned (.int .i64 code) ∧ Below w.heap.size w w' := hc ▸ l22Asked_any A n c ps r w h hn
end Go.Proofs.Ytpnilnpgiampgaa
/- Walks: the parents of a shape's points, of both. -/

namespace Go.Proofs.Ytpnilnpgiampgaa
open Go.RowKit Go.Shelf
attribute [local go_sem] BelowBy.cell BelowBy.cell_drew stillUpon givesUpon

/-- the parents of a shape's points and a code -/
def parR (ps : List Pt) (r : Int) : List Int × Int := if treeC ps r = 0 then ((ways (nbP ps) ps.length r.toNat).1, 0) else ([], treeC ps r)
theorem parR_yes {ps : List Pt} {rn : Nat} (h : treeC ps (rn : Int) = 0) : parR ps (rn : Int) = ((ways (nbP ps) ps.length rn).1, 0) := by
  unfold parR; rw [if_pos h]; simp
theorem parR_no {ps : List Pt} {r : Int} (h : treeC ps r ≠ 0) : parR ps r = ([], treeC ps r) := by unfold parR; rw [if_neg h]
theorem ways_len {ps : List Pt} {r : Nat} (h : r < ps.length) : (ways (nbP ps) ps.length r).1.length = ps.length ∧ (ways (nbP ps) ps.length r).2.length = ps.length :=
  ⟨((WayInv.start h).all (nb := nbP ps) ps.length).lp, ((WayInv.start h).all (nb := nbP ps) ps.length).ls⟩
theorem parR_len (ps : List Pt) (r : Int) : (parR ps r).1.length ≤ 500 := by
  unfold parR
  split
  · rename_i h
    obtain ⟨_, _, _, h5, rn, rfl, hr⟩ := treeC_zero h
    show (ways (nbP ps) ps.length (rn : Int).toNat).1.length ≤ 500
    simp only [Int.toNat_natCast]
    rw [(ways_len hr).1]; exact h5
  · simp
set_option maxRecDepth 100000 in
set_option maxHeartbeats 4000000 in
theorem ParentsOf_any (A : Option Addr) (n c : Nat) (ps : List Pt) (r : Int) (w : World) (h : RdSl 2 RPt w A n ps) (hn : n ≤ 1073741824) :
    Calls Try.prog 24 #[.slice A n c, .int .i64 r] w (IntsRes w (parR ps r)) := by
  obtain ⟨i1, hi', hz0', hz1', hz2'⟩ := info_parts infoI
  have hl := Lib.hid h.len
  have hH := Lib.hid h
  clear h
  by_cases hc : treeC ps r = 0
  · obtain ⟨hS, hone, hp1, hp2, rn, rfl, hr⟩ := treeC_zero hc
    have hR := Lib.hid (parR_yes hc)
    have hcH := Lib.hid hc
    rw [hl.out] at hp1 hp2 hr
    obtain ⟨e, he⟩ : ∃ e, ps[rn]? = some e := ⟨_, List.getElem?_eq_getElem (by rw [hl.out]; exact hr)⟩
    obtain ⟨ex, ey⟩ := e
    have hSH := Lib.hid hS
    have hall := Lib.hid (fun (v : Nat) (hv : v < ps.length) => reach_all (nb := nbP ps) (n := ps.length) (r := rn) (of_decide_eq_true hone) (by rw [hl.out]; exact hr) (fun u d v hu hd hv => nbP_sym hS u d v hu hd hv) hv)
    obtain ⟨bb, ob, rfl, hbb, hbc⟩ := hH.out.ptr (by omega)
    obtain ⟨e0, e1⟩ := hbc rn _ he
    have hx0 : (0 : Int) ≤ (rn : Int) := by omega
    have heH := Lib.hid he
    have hbl := Lib.hid hbb
    have hrI : (rn : Int) < (n : Int) := by omega
    clear hc hS hone he hbc
    go_enter Try.func24, Try.ntmps24
    go_wp2_with (first
      | (go_at_call 43; refine (rootCode_at hH.out hn hcH.out).mono ?_; rintro e w1 ⟨rfl, hb1⟩; obtain ⟨c1, f1, s1, t1⟩ := bcell hb1; have hb1H := Lib.hid hb1; clear hb1)
      | (go_at_call 50; refine (reach_any _ _ _ ps rn _ _ _ (hH.out.below RPt.stable hb1H.out) hSH.out (by omega) heH.out).mono ?_; rintro e w2 ⟨b, m, T, rfl, hM, hm, hT, hb2⟩; have hb2H := Lib.hid (hb1H.out.trans (hb2.mono hb1H.out.size)); have hMH := Lib.hid hM; have hTH := Lib.hid hT; clear hM hT hb2))
    have hq := hb2H.out.size
    go_loopg [25, 8] n (fun g i v wr => ∃ (k : Nat), k + g = n ∧ i = .int .i64 (k : Int) ∧ Hid (wr.ownsRow w2.heap.size 2 1 v k (intsQ ((ways (nbP ps) ps.length rn).1.take k))) ∧ Hid (Below w2.heap.size w2 wr))
    case atStart => exact ⟨0, by omega, rfl, Lib.hid (World.ownsRow_nil _ _ _ _), Lib.hid (bl_refl _)⟩
    case round =>
      obtain ⟨k, hk, rfl, hO, hbw⟩ := hrel
      have hszl := hbw.out.size
      by_cases hkn : k < n
      · have hAw := (hH.out.below RPt.stable hb2H.out).below RPt.stable hbw.out
        obtain ⟨bb', ob', eA, hbb', hbc⟩ := hAw.ptr (by omega)
        injection eA with eA
        injection eA with eA1 eA2 _
        subst eA1 eA2
        obtain ⟨⟨px, py⟩, hp⟩ := hAw.get hkn
        obtain ⟨p0, p1⟩ := hbc k _ hp
        have hpt := hSH.out.pt k _ hp
        simp only at hpt p0 p1
        obtain ⟨gv, ev, fv, dv, sv, hTv, _, _, hdv, hsv, htr, _⟩ := hTH.out.on k (hall.out k (by rw [hl.out]; exact hkn))
        have hlk := Lib.hid ((tripM_at (T := T) (hSH.out.idx hp)).trans hTv)
        simp only at hlk
        have htk := Lib.hid (show (ways (nbP ps) ps.length rn).1.take (k + 1) = (ways (nbP ps) ps.length rn).1.take k ++ [dv] by rw [List.take_add_one]; unfold ways; rw [hdv]; rfl)
        have t3 := (hbw.out.cell (p := ⟨gv, 3, none⟩) htr.lt).trans htr.c3
        have tl : gv < wr.heap.size := Nat.lt_of_lt_of_le htr.lt hszl
        obtain ⟨A1, c1', rfl⟩ := ownsRow_form hO.out
        clear hbc hp hdv hsv htr hAw hTv
        go_wp2_with (first
          | (at_lookup; refine wpList_look_tmap1 _ rfl _ _ rfl b m _ rfl ((hMH.out.below hbw.out).below (by exact bel_)) px py (W64.of (by omega)) (W64.of (by omega)) rfl gv hlk.out ?_)
          | (at_builtin; refine wpList_append_own_at _ rfl _ _ 48 rfl w2.heap.size 2 i1 (.int .i64 0) 1 8 Try.underlying48 hi' hz0' hz1' hz2' rfl (by decide) (.slice A1 k c1') k (intsQ ((ways (nbP ps) ps.length rn).1.take k)) rfl ((hO.out.alloc _).alloc _) ⟨wr.heap.size + 1, 0, none⟩ 1 1 [.int .i64 dv] rfl rfl (by have := cell_one_new (wr.alloc (Obj.cells #[.int .i64 px, .int .i64 py] 60)) (.int .i64 dv) 2; simpa using this) (fun x hx => by simp at hx; subst hx; rfl) (by unfold maxLen; omega) (by omega) (by simp; omega) ?_; intro v5 w5 hown5 hgrow5 _ hat5; have hown5H := Lib.hid hown5; have hgrow5H := Lib.hid hgrow5; clear hown5 hgrow5 hat5))
        go_roundg (n - (k + 1))
        case measure => omega
        case rel =>
          refine ⟨k + 1, by omega, by go_num, Lib.hid ?_, Lib.hid ?_⟩
          · rw [htk.out, ← intsQ_snoc]; exact hown5H.out
          · exact (((hbw.out.alloc hszl _).alloc (by simp; omega) _).grown hgrow5H.out (by simp; omega) (fun g e => (hO.out.lt g e).1))
      · obtain rfl : k = n := by omega
        have hwl := (ways_len (ps := ps) (r := rn) (by rw [hl.out]; exact hr)).1
        rw [hl.out] at hwl
        have htk := Lib.hid (show (ways (nbP ps) ps.length rn).1.take k = (ways (nbP ps) ps.length rn).1 from List.take_of_length_le (by rw [hl.out, hwl]; omega))
        obtain ⟨A1, c1', rfl⟩ := ownsRow_form hO.out
        have hwlH := Lib.hid hwl
        clear hwl
        go_wp2
        go_ret2
        refine ⟨A1, c1', ?_, ?_, hb2H.out.trans (hbw.out.mono hq)⟩
        · rw [hR.out, hl.out, hwlH.out]; rfl
        · rw [hR.out]
          show wr.ownsRow w.heap.size 2 1 (.slice A1 (ways (nbP ps) ps.length rn).1.length c1') (ways (nbP ps) ps.length rn).1.length (intsQ (ways (nbP ps) ps.length rn).1)
          have h1 := ownsRow_baseQ hO.out hq
          rw [htk.out, hl.out] at h1
          rw [hl.out, hwlH.out]
          exact h1
  · have hR := Lib.hid (parR_no hc)
    obtain ⟨code, hcode⟩ : ∃ code, treeC ps r = code := ⟨_, rfl⟩
    have hc1 : code = 1 ∨ code = 2 := by
      have := treeC_cases ps r
      rw [hcode] at this hc
      omega
    rw [hcode] at hR
    have hcH := Lib.hid hcode
    clear hcode hc
    rcases hc1 with rfl | rfl
    all_goals
      go_enter Try.func24, Try.ntmps24
      go_wp2_with (go_at_call 43; refine (rootCode_at hH.out hn hcH.out).mono ?_; rintro e w1 ⟨rfl, hb1⟩; have hb1H := Lib.hid hb1; clear hb1)
      go_ret2
      exact ⟨none, 0, by rw [hR.out]; rfl, by rw [hR.out]; exact World.ownsRow_nil _ _ _ _, hb1H.out⟩
set_option maxHeartbeats 1000000 in
theorem sParentsOf_any (A : Option Addr) (n c : Nat) (ps : List Pt) (r : Int) (w : World) (h : RdSl 2 RPt w A n ps) (hn : n ≤ 1073741824) :
    Calls Try.prog 23 #[.slice A n c, .int .i64 r] w (IntsRes w (parR ps r)) := by
  have hl := Lib.hid h.len
  have hH := Lib.hid h
  clear h
  by_cases hc : treeC ps r = 0
  · obtain ⟨hS, hone, hp1, hp2, rn, rfl, hr⟩ := treeC_zero hc
    have hR := Lib.hid (parR_yes hc)
    have hcH := Lib.hid hc
    rw [hl.out] at hp1 hp2 hr
    have hSH := Lib.hid hS
    have hwlH := Lib.hid ((ways_len (ps := ps) (r := rn) (by rw [hl.out]; exact hr)).1)
    clear hc hS hone
    go_enter Try.func23, Try.ntmps23
    go_wp2_with (first
      | (go_at_call 40; refine (l22Asked_at hH.out hn hcH.out).mono ?_; rintro e w1 ⟨rfl, hb1⟩; have hb1H := Lib.hid hb1; clear hb1)
      | (go_at_call 49; refine (l22Ways_any _ _ _ ps rn _ (hH.out.below RPt.stable hb1H.out) hSH.out (by omega) hr).mono ?_; rintro e w2 ⟨A1, c1, A2, c2, rfl, hO1, hO2, hb2⟩; have hO1H := Lib.hid hO1; have hb2H := Lib.hid hb2; clear hO1 hO2 hb2))
    go_ret2
    refine ⟨A1, c1, by rw [hR.out, hwlH.out]; rfl, ?_, hb1H.out.trans (hb2H.out.mono hb1H.out.size)⟩
    rw [hR.out]
    show w2.ownsRow w.heap.size 2 1 (.slice A1 (ways (nbP ps) ps.length rn).1.length c1) (ways (nbP ps) ps.length rn).1.length (intsQ (ways (nbP ps) ps.length rn).1)
    rw [hwlH.out]
    exact ownsRow_baseQ hO1H.out hb1H.out.size
  · have hR := Lib.hid (parR_no hc)
    obtain ⟨code, hcode⟩ : ∃ code, treeC ps r = code := ⟨_, rfl⟩
    have hc1 : code = 1 ∨ code = 2 := by
      have := treeC_cases ps r
      rw [hcode] at this hc
      omega
    rw [hcode] at hR
    have hcH := Lib.hid hcode
    clear hcode hc
    rcases hc1 with rfl | rfl
    all_goals
      go_enter Try.func23, Try.ntmps23
      go_wp2_with (go_at_call 40; refine (l22Asked_at hH.out hn hcH.out).mono ?_; rintro e w1 ⟨rfl, hb1⟩; have hb1H := Lib.hid hb1; clear hb1)
      go_ret2
      exact ⟨none, 0, by rw [hR.out]; rfl, by rw [hR.out]; exact World.ownsRow_nil _ _ _ _, hb1H.out⟩
end Go.Proofs.Ytpnilnpgiampgaa
/- Walks: the greatest number of steps from a point of a shape, of both. -/

namespace Go.Proofs.Ytpnilnpgiampgaa
open Go.RowKit Go.Shelf
attribute [local go_sem] BelowBy.cell BelowBy.cell_drew stillUpon givesUpon

/-- the greatest of some numbers, 0 at least -/
def maxQ (l : List Int) : Int := l.foldl max 0
theorem maxQ_snoc (l : List Int) (x : Int) : maxQ (l ++ [x]) = max (maxQ l) x := by simp [maxQ]
theorem maxQ_take {l : List Int} {k : Nat} {x : Int} (h : l[k]? = some x) : maxQ (l.take (k + 1)) = max (maxQ (l.take k)) x := by
  rw [List.take_add_one, h]; exact maxQ_snoc _ _
theorem maxQ_nn (l : List Int) : 0 ≤ maxQ l := by
  unfold maxQ
  have : ∀ (l : List Int) (a : Int), 0 ≤ a → 0 ≤ l.foldl max a := by
    intro l
    induction l with
    | nil => intro a h; exact h
    | cons x l ih => intro a h; exact ih _ (Int.le_trans h (Int.le_max_left _ _))
  exact this l 0 (Int.le_refl _)
theorem maxQ_ge : ∀ (l : List Int) (a : Int), a ≤ l.foldl max a ∧ ∀ x ∈ l, x ≤ l.foldl max a
  | [], a => ⟨Int.le_refl _, fun x h => by simp at h⟩
  | y :: l, a => by
    obtain ⟨h1, h2⟩ := maxQ_ge l (max a y)
    refine ⟨Int.le_trans (Int.le_max_left _ _) h1, fun x hx => ?_⟩
    rcases List.mem_cons.1 hx with rfl | hx
    · exact Int.le_trans (Int.le_max_right _ _) h1
    · exact h2 x hx
theorem maxQ_is : ∀ (l : List Int) (a : Int), l.foldl max a = a ∨ l.foldl max a ∈ l
  | [], a => .inl rfl
  | y :: l, a => by
    rcases maxQ_is l (max a y) with h | h
    · show l.foldl max (max a y) = a ∨ l.foldl max (max a y) ∈ y :: l
      rw [h]
      rcases Int.le_total a y with h1 | h1
      · rw [Int.max_eq_right h1]; exact .inr (by simp)
      · rw [Int.max_eq_left h1]; exact .inl rfl
    · exact .inr (List.mem_cons_of_mem _ h)
theorem maxQ_eq {l : List Int} {m : Int} (h1 : ∀ x ∈ l, x ≤ m) (h2 : m = 0 ∨ m ∈ l) (h0 : 0 ≤ m) : maxQ l = m := by
  have ha := maxQ_ge l 0
  have hb := maxQ_is l 0
  unfold maxQ
  have u : l.foldl max 0 ≤ m := by
    rcases hb with h | h
    · rw [h]; exact h0
    · exact h1 _ h
  have v : m ≤ l.foldl max 0 := by
    rcases h2 with rfl | h
    · exact ha.1
    · exact ha.2 _ h
  omega
/-- the height of a shape from a place -/
def hgtN (ps : List Pt) (r : Nat) : Int := maxQ (ways (nbP ps) ps.length r).2
theorem way_steps {ps : List Pt} {r : Nat} (hr : r < ps.length) {x : Int} (hx : x ∈ (ways (nbP ps) ps.length r).2) : -1 ≤ x ∧ x ≤ (ps.length : Int) := by
  have hI := (WayInv.start hr).all (nb := nbP ps) ps.length
  obtain ⟨v, hv⟩ := List.mem_iff_getElem?.1 hx
  have hvl : v < ps.length := by have := lt_of_get hv; rw [(ways_len hr).2] at this; exact this
  rcases Classical.em (v ∈ (wayS (nbP ps) (way0 ps.length r) ps.length).1) with hm | hm
  · obtain ⟨s, hs, h0, h1⟩ := hI.is v hm
    have hl := hI.length
    unfold ways at hv
    rw [hv] at hs
    injection hs with hs
    omega
  · have := (hI.other v hvl hm).1
    unfold ways at hv
    rw [hv] at this
    injection this with this
    omega
theorem hgtN_le {ps : List Pt} {r : Nat} (hr : r < ps.length) : 0 ≤ hgtN ps r ∧ hgtN ps r ≤ (ps.length : Int) := by
  refine ⟨maxQ_nn _, ?_⟩
  unfold hgtN maxQ
  rcases maxQ_is (ways (nbP ps) ps.length r).2 0 with h | h
  · rw [h]; omega
  · exact (way_steps hr h).2
set_option maxRecDepth 100000 in
set_option maxHeartbeats 4000000 in
theorem height_any (A : Option Addr) (n c : Nat) (ps : List Pt) (r : Nat) (x y : Int) (w : World) (hA : RdSl 2 RPt w A n ps) (hS : Shp ps) (hn : n ≤ 100000) (hr : ps[r]? = some ⟨x, y⟩) :
    Calls Try.prog 44 #[.slice A n c, .agg #[.int .i64 x, .int .i64 y]] w fun e w' => e = .returned (.int .i64 (hgtN ps r)) ∧ Below w.heap.size w w' := by
  have hAH := Lib.hid hA
  have hSH := Lib.hid hS
  have hrH := Lib.hid hr
  have hrn := lt_of_get hr
  have hI := Lib.hid ((WayInv.start hrn).all (nb := nbP ps) ps.length)
  clear hA hS hr
  go_enter Try.func44, Try.ntmps44
  go_wp2_with (first
    | (go_at_call 50; refine (reach_any _ _ _ ps r _ _ _ (hAH.out.below RPt.stable (by exact bel_)) hSH.out hn hrH.out).mono ?_; rintro e w2 ⟨b, m, T, rfl, hM, hm, hT, hb2⟩; obtain ⟨D, hown, hat, hks⟩ := hM; have hsz := hown.size_le; (obtain ⟨c0, hc0⟩ : ∃ c0, Maps.size D = c0 := ⟨_, rfl⟩); have hc0H := Lib.hid hc0; have hownH := Lib.hid hown; have hatH := Lib.hid hat; have hksH := Lib.hid hks; have hb2H := Lib.hid (show Below w.heap.size w w2 from (bl_al (bl_refl w) _).trans (hb2.mono (by simp))); have hTH := Lib.hid hT; clear hat hks hown hc0 hsz hT hb2)
    | (at_range; refine wpList_range_own _ rfl _ 81 rfl _ _ pt_keyed Try.underlying81 _ b m D rfl hownH.out ?_; intro w0 hrg0 hg0 hs0; have hrg0H := Lib.hid hrg0; have hg0H := Lib.hid hg0; clear hrg0 hg0 hs0; go_frame))
  have hrg1 := Lib.hid (hc0H.out ▸ hrg0H.out)
  have hq := hb2H.out.size
  go_loopg [5] c0 (fun g sv wr => ∃ (mx : Int) (left : Lit → Bool), sv = .int .i64 mx ∧ Hid (wr.ranges Try.prog 60 ptrElem b w2.heap.size m D left g) ∧ 0 ≤ mx ∧ mx ≤ (ps.length : Int) ∧ Hid (mx = 0 ∨ mx ∈ (wayS (nbP ps) (way0 ps.length r) ps.length).2.2) ∧ Hid (∀ z, left z = true → Maps.has D z = true) ∧
    Hid (∀ (v : Nat) (e : Pt) (s : Int), v ∈ (wayS (nbP ps) (way0 ps.length r) ps.length).1 → ps[v]? = some e → (wayS (nbP ps) (way0 ps.length r) ps.length).2.2[v]? = some s → left (pkey e.x e.y) = true ∨ s ≤ mx) ∧ Hid (Below w2.heap.size w2 wr))
  case atStart =>
    refine ⟨0, _, rfl, hrg1, Int.le_refl _, by omega, Lib.hid (.inl rfl), Lib.hid (fun z hz => hz), Lib.hid (fun v e s hv he hs => .inl ?_), Lib.hid ((bl_refl w2).grown hg0H.out (Nat.le_refl _) (fun q e => by cases e))⟩
    have hpt := hSH.out.pt v e he
    rw [(hatH.out e.x e.y (W64.of (by omega)) (W64.of (by omega))).1]
    obtain ⟨gv, ev, fv, dv, sv, hTv, _⟩ := hTH.out.on v hv
    rw [tripM_at (hSH.out.idx he), hTv]
    rfl
  case round =>
    obtain ⟨mx, left, rfl, hrg, hm0, hm1, hmx, hlf, hvis, hbw⟩ := hrel
    have hszl := hbw.out.size
    go_wp2_with (at_next; refine wpList_next_ranges _ rfl _ rfl _ pt_keyed ptrElem (fun v : Value => v) ptrV (fun key kl _ => ⟨key, rfl⟩) (fun v y h => by obtain ⟨o, h1, _⟩ := ptrElem_inv v y h; exact ⟨o, h1⟩) b w2.heap.size m D left _ rfl hrg.out ?_ ?_)
    · intro hg0' hno
      have hend : maxQ (wayS (nbP ps) (way0 ps.length r) ps.length).2.2 = mx := by
        refine maxQ_eq (fun x hx => ?_) hmx.out hm0
        obtain ⟨v, hv⟩ := List.mem_iff_getElem?.1 hx
        have hvl : v < ps.length := by have := lt_of_get hv; rw [hI.out.ls] at this; exact this
        rcases Classical.em (v ∈ (wayS (nbP ps) (way0 ps.length r) ps.length).1) with hmm | hmm
        · obtain ⟨e, he⟩ : ∃ e, ps[v]? = some e := ⟨_, List.getElem?_eq_getElem hvl⟩
          rcases hvis.out v e x hmm he hv with h | h
          · rw [hno] at h; cases h
          · exact h
        · have := (hI.out.other v hvl hmm).1
          rw [hv] at this
          injection this with this
          omega
      have hendH := Lib.hid hend
      clear hend hno
      go_wp2
      go_ret
      exact ⟨ret_int hendH.out.symm, hb2H.out.trans (hbw.out.mono hq)⟩
    · intro key o kl y1 y2 w1 cnt1 hkey hlk hR hat1 hrg1 hlt hg1 hsz1 hen
      obtain ⟨kx, ky, hkx, hky, rfl⟩ := hksH.out kl (hlf.out kl hlk)
      obtain ⟨hh1, hh2⟩ := hatH.out kx ky hkx hky
      rw [hlf.out _ hlk] at hh1
      obtain ⟨gM, hgM⟩ := Option.isSome_iff_exists.1 hh1.symm
      have ho : o = some gM := by
        have h1 := hat1 (.lit (.int .i64 (-1)))
        rw [hh2, hgM] at h1
        rw [ptrElem_mk] at hR
        injection hR with hR
        injection hR with hR1 hR2
        rw [← hR1] at h1
        injection h1 with h1
        injection h1 with _ h1
        exact (ptrI_inj h1).symm
      subst ho
      have hpv : ptrV (some gM) = .pointer (some ⟨gM, 0, none⟩) := rfl
      obtain ⟨v, hiv, hTv⟩ : ∃ v, idxP ps kx ky = some v ∧ T v = some gM := by
        unfold tripM at hgM
        cases hi : idxP ps kx ky with
        | none => rw [hi] at hgM; cases hgM
        | some v => rw [hi] at hgM; exact ⟨v, rfl, hgM⟩
      have hpv' := idxP_some hiv
      have hvQ : v ∈ (wayS (nbP ps) (way0 ps.length r) ps.length).1 := Classical.byContradiction fun hh => by rw [hTH.out.off v hh] at hTv; cases hTv
      obtain ⟨gv, ev, fv, dv, sv, hTv', _, _, _, hsv, htr, _⟩ := hTH.out.on v hvQ
      obtain rfl : gv = gM := by rw [hTv] at hTv'; injection hTv' with h; exact h.symm
      have hsB := way_steps hrn (show sv ∈ (ways (nbP ps) ps.length r).2 from List.mem_of_getElem? hsv)
      have hb1 := Lib.hid (hbw.out.grown hg1 hszl (fun j hj => by cases hj; exact Nat.le_refl _))
      have hs1 := hb1.out.size
      have t4 := (hb1.out.cell (p := ⟨gv, 4, none⟩) htr.lt).trans htr.c4
      have tl : gv < w1.heap.size := Nat.lt_of_lt_of_le htr.lt hs1
      have hlf1 := Lib.hid (show ∀ z, (left z && !z.sameKey (pkey kx ky)) = true → Maps.has D z = true from fun z hz => hlf.out z (by simp only [Bool.and_eq_true] at hz; exact hz.1))
      have hvis1 := Lib.hid (show ∀ (u : Nat) (e : Pt) (s : Int), u ∈ (wayS (nbP ps) (way0 ps.length r) ps.length).1 → ps[u]? = some e → (wayS (nbP ps) (way0 ps.length r) ps.length).2.2[u]? = some s → (left (pkey e.x e.y) && !(pkey e.x e.y).sameKey (pkey kx ky)) = true ∨ s ≤ max mx sv from fun u e s hu he hs => by
        rcases hvis.out u e s hu he hs with h | h
        · by_cases huv : u = v
          · subst huv
            rw [hsv] at hs
            injection hs with hs
            subst hs
            exact .inr (Int.le_max_right _ _)
          · refine .inl ?_
            rw [h, Bool.true_and]
            cases hk : (pkey e.x e.y).sameKey (pkey kx ky)
            · rfl
            · exfalso
              have hpt := hSH.out.pt u e he
              obtain ⟨rfl, rfl⟩ := pkey_inj (W64.of (by omega)) (W64.of (by omega)) hkx hky (WideAt.sameKey_eq hk)
              exact huv (by have := hSH.out.idx he; rw [hiv] at this; injection this with this; exact this.symm)
        · exact .inr (Int.le_trans h (Int.le_max_left _ _)))
      have hmx1 := Lib.hid (show max mx sv = 0 ∨ max mx sv ∈ (wayS (nbP ps) (way0 ps.length r) ps.length).2.2 by
        rcases Int.le_total mx sv with h | h
        · rw [Int.max_eq_right h]; exact .inr (List.mem_of_getElem? hsv)
        · rw [Int.max_eq_left h]; exact hmx.out)
      have hrgH := Lib.hid hrg1
      rw [hpv] at hen
      simp only [hpv]
      clear hat1 hR hrg1 hkey hpv hh1 hh2 hgM hTv hTv' hsv htr hiv hvQ hpv' hlk
      go_wp2
      go_roundg cnt1
      case measure => exact hlt
      case rel => exact ⟨max mx sv, _, rfl, hrgH, by omega, by omega, hmx1, hlf1, hvis1, hb1⟩
end Go.Proofs.Ytpnilnpgiampgaa
/- Walks: the heights of a shape's points and its center, of both. -/

namespace Go.Proofs.Ytpnilnpgiampgaa
open Go.RowKit Go.Shelf
attribute [local go_sem] BelowBy.cell BelowBy.cell_drew stillUpon givesUpon

def hgtR (ps : List Pt) (r : Int) : Int × Int := if treeC ps r = 0 then (hgtN ps r.toNat, 0) else (0, treeC ps r)
theorem hgtR_yes {ps : List Pt} {rn : Nat} (h : treeC ps (rn : Int) = 0) : hgtR ps (rn : Int) = (hgtN ps rn, 0) := by
  unfold hgtR; rw [if_pos h]; simp
theorem hgtR_no {ps : List Pt} {r : Int} (h : treeC ps r ≠ 0) : hgtR ps r = (0, treeC ps r) := by unfold hgtR; rw [if_neg h]
set_option maxHeartbeats 1000000 in
theorem HeightOf_any (A : Option Addr) (n c : Nat) (ps : List Pt) (r : Int) (w : World) (h : RdSl 2 RPt w A n ps) (hn : n ≤ 1073741824) :
    Calls Try.prog 19 #[.slice A n c, .int .i64 r] w (ChkRes w (hgtR ps r)) := by
  have hl := Lib.hid h.len
  have hH := Lib.hid h
  clear h
  by_cases hc : treeC ps r = 0
  · obtain ⟨hS, hone, hp1, hp2, rn, rfl, hr⟩ := treeC_zero hc
    have hR := Lib.hid (hgtR_yes hc)
    have hcH := Lib.hid hc
    rw [hl.out] at hp1 hp2 hr
    obtain ⟨e, he⟩ : ∃ e, ps[rn]? = some e := ⟨_, List.getElem?_eq_getElem (by rw [hl.out]; exact hr)⟩
    obtain ⟨ex, ey⟩ := e
    have hSH := Lib.hid hS
    obtain ⟨bb, ob, rfl, hbb, hbc⟩ := hH.out.ptr (by omega)
    obtain ⟨e0, e1⟩ := hbc rn _ he
    have hx0 : (0 : Int) ≤ (rn : Int) := by omega
    have heH := Lib.hid he
    have hrI : (rn : Int) < (n : Int) := by omega
    clear hc hS hone he hbc
    go_enter Try.func19, Try.ntmps19
    go_wp2_with (first
      | (go_at_call 43; refine (rootCode_at hH.out hn hcH.out).mono ?_; rintro e w1 ⟨rfl, hb1⟩; obtain ⟨c1, f1, s1, t1⟩ := bcell hb1; have hb1H := Lib.hid hb1; clear hb1)
      | (go_at_call 44; refine (height_any _ _ _ ps rn _ _ _ (hH.out.below RPt.stable hb1H.out) hSH.out (by omega) heH.out).mono ?_; rintro e w2 ⟨rfl, hb2⟩; have hb2H := Lib.hid (hb1H.out.trans (hb2.mono hb1H.out.size)); clear hb2))
    go_ret2
    exact ChkRes.of hR.out.symm hb2H.out
  · have hR := Lib.hid (hgtR_no hc)
    obtain ⟨code, hcode⟩ : ∃ code, treeC ps r = code := ⟨_, rfl⟩
    have hc1 : code = 1 ∨ code = 2 := by
      have := treeC_cases ps r
      rw [hcode] at this hc
      omega
    rw [hcode] at hR
    have hcH := Lib.hid hcode
    clear hcode hc
    rcases hc1 with rfl | rfl
    all_goals
      go_enter Try.func19, Try.ntmps19
      go_wp2_with (go_at_call 43; refine (rootCode_at hH.out hn hcH.out).mono ?_; rintro e w1 ⟨rfl, hb1⟩; have hb1H := Lib.hid hb1; clear hb1)
      go_ret2
      exact ChkRes.of hR.out.symm hb1H.out
theorem l00MaxQ_any (a b : Int) (w : World) : Calls Try.prog 67 #[.int .i64 a, .int .i64 b] w fun e w' => e = .returned (.int .i64 (max a b)) ∧ w = w' := by
  go_enter Try.func67, Try.ntmps67
  go_wp2
  · rename_i h
    go_ret
    exact ⟨ret_int (by omega), rfl⟩
  · go_ret
    exact ⟨ret_int (by omega), rfl⟩
theorem rdQ_of {W : World} {base : Nat} {A : Option Addr} {n c : Nat} {l : List Int} (h : W.ownsRow base 2 1 (.slice A n c) n (intsQ l)) (hn : l.length = n) : RdSl 1 RInt W A n l := by
  subst hn
  obtain ⟨A', cap, e, hr⟩ := rdI_of (bs := l) h
  injection e with e1
  subst e1
  exact hr
set_option maxRecDepth 100000 in
set_option maxHeartbeats 2000000 in
theorem l22Height_any (A : Option Addr) (n c : Nat) (ps : List Pt) (r : Nat) (w : World) (hA : RdSl 2 RPt w A n ps) (hS : Shp ps) (hn : n ≤ 100000) (hrn : r < n) :
    Calls Try.prog 41 #[.slice A n c, .int .i64 (r : Int)] w fun e w' => e = .returned (.int .i64 (hgtN ps r)) ∧ Below w.heap.size w w' := by
  have hl := Lib.hid hA.len
  have hAH := Lib.hid hA
  have hSH := Lib.hid hS
  have hwlH := Lib.hid ((ways_len (ps := ps) (r := r) (by rw [hl.out]; exact hrn)).2)
  clear hA hS
  go_enter Try.func41, Try.ntmps41
  go_wp2_with (go_at_call 49; refine (l22Ways_any _ _ _ ps r _ hAH.out hSH.out hn hrn).mono ?_; rintro e w2 ⟨A1, c1, A2, c2, rfl, hO1, hO2, hb2⟩; have hO2H := Lib.hid (rdQ_of hO2 hwlH.out); have hb2H := Lib.hid hb2; clear hO1 hO2 hb2; have hlp := hl.out; (obtain ⟨nn, hnn⟩ : ∃ nn, ps.length = nn := ⟨_, rfl⟩); rw [hnn] at hlp ⊢; subst hlp; clear hnn)
  have hO3 : Hid (RdSl 1 RInt w2 A2 nn (ways (nbP ps) ps.length r).2) := Lib.hid (by have := hO2H.out; rw [hl.out] at this; rw [hl.out]; exact this)
  have hwl3 : Hid ((ways (nbP ps) ps.length r).2.length = nn) := Lib.hid (hwlH.out.trans hl.out)
  clear hO2H hwlH
  have hgt : Hid (hgtN ps r = maxQ (ways (nbP ps) ps.length r).2) := Lib.hid rfl
  obtain ⟨L, hL⟩ : ∃ L, (ways (nbP ps) ps.length r).2 = L := ⟨_, rfl⟩
  rw [hL] at hO3 hwl3 hgt
  clear hL
  go_loopg [8, 7] nn (fun g i v wr => ∃ (k : Nat), k + g = nn ∧ i = .int .i64 (k : Int) ∧ v = .int .i64 (maxQ (L.take k)) ∧ w2 = wr)
  case atStart => exact ⟨0, by omega, rfl, rfl, rfl⟩
  case round =>
    obtain ⟨k, hk, rfl, rfl, rfl⟩ := hrel
    by_cases hkn : k < nn
    · obtain ⟨b, o, rfl, hb1, hc⟩ := hO3.out.ptr (by omega)
      obtain ⟨x, hx⟩ := hO3.out.get hkn
      have cx := hc k x hx
      unfold RInt at cx
      simp only [Nat.mul_one] at cx
      have htk := Lib.hid (maxQ_take hx)
      obtain ⟨m, hm⟩ : ∃ m, maxQ (L.take k) = m := ⟨_, rfl⟩
      rw [hm] at htk ⊢
      clear hc hx hm
      go_wp2_with (go_at_call 67; refine (l00MaxQ_any _ _ _).mono ?_; rintro e _ ⟨rfl, rfl⟩)
      go_roundg (nn - (k + 1))
      case measure => omega
      case rel => exact ⟨k + 1, by omega, by go_num, by rw [htk.out], rfl⟩
    · obtain rfl : k = nn := by omega
      have ht := Lib.hid (show L.take k = L from List.take_of_length_le (by rw [hwl3.out]; omega))
      go_wp2
      go_ret
      exact ⟨ret_int (by rw [ht.out, hgt.out]), hb2H.out⟩
set_option maxHeartbeats 1000000 in
theorem sHeightOf_any (A : Option Addr) (n c : Nat) (ps : List Pt) (r : Int) (w : World) (h : RdSl 2 RPt w A n ps) (hn : n ≤ 1073741824) :
    Calls Try.prog 17 #[.slice A n c, .int .i64 r] w (ChkRes w (hgtR ps r)) := by
  have hl := Lib.hid h.len
  have hH := Lib.hid h
  clear h
  by_cases hc : treeC ps r = 0
  · obtain ⟨hS, hone, hp1, hp2, rn, rfl, hr⟩ := treeC_zero hc
    have hR := Lib.hid (hgtR_yes hc)
    have hcH := Lib.hid hc
    rw [hl.out] at hp1 hp2 hr
    have hSH := Lib.hid hS
    clear hc hS hone
    go_enter Try.func17, Try.ntmps17
    go_wp2_with (first
      | (go_at_call 40; refine (l22Asked_at hH.out hn hcH.out).mono ?_; rintro e w1 ⟨rfl, hb1⟩; have hb1H := Lib.hid hb1; clear hb1)
      | (go_at_call 41; refine (l22Height_any _ _ _ ps rn _ (hH.out.below RPt.stable hb1H.out) hSH.out (by omega) hr).mono ?_; rintro e w2 ⟨rfl, hb2⟩; have hb2H := Lib.hid (hb1H.out.trans (hb2.mono hb1H.out.size)); clear hb2))
    go_ret2
    exact ChkRes.of hR.out.symm hb2H.out
  · have hR := Lib.hid (hgtR_no hc)
    obtain ⟨code, hcode⟩ : ∃ code, treeC ps r = code := ⟨_, rfl⟩
    have hc1 : code = 1 ∨ code = 2 := by
      have := treeC_cases ps r
      rw [hcode] at this hc
      omega
    rw [hcode] at hR
    have hcH := Lib.hid hcode
    clear hcode hc
    rcases hc1 with rfl | rfl
    all_goals
      go_enter Try.func17, Try.ntmps17
      go_wp2_with (go_at_call 40; refine (l22Asked_at hH.out hn hcH.out).mono ?_; rintro e w1 ⟨rfl, hb1⟩; have hb1H := Lib.hid hb1; clear hb1)
      go_ret2
      exact ChkRes.of hR.out.symm hb1H.out
end Go.Proofs.Ytpnilnpgiampgaa
/- Walks: the center of a shape, of both. -/

namespace Go.Proofs.Ytpnilnpgiampgaa
open Go.RowKit Go.Shelf
attribute [local go_sem] BelowBy.cell BelowBy.cell_drew stillUpon givesUpon

/-- the least of some numbers and its first place, as the reference looks for them: behind the first k -/
def bestQ (f : Nat → Int) : Nat → Int × Int
  | 0 => (-1, 0)
  | k + 1 => if (bestQ f k).1 < 0 ∨ f k < (bestQ f k).1 then (f k, (k : Int)) else bestQ f k
/-- what it finds -/
theorem bestQ_is {f : Nat → Int} (h0 : ∀ k, 0 ≤ f k) : ∀ k, 0 < k → ∃ j : Nat, j < k ∧ (bestQ f k).2 = (j : Int) ∧ (bestQ f k).1 = f j ∧ (∀ i, i < k → f j ≤ f i) ∧ ∀ i, i < j → f j < f i
  | 0, h => by omega
  | k + 1, _ => by
    rcases Nat.eq_zero_or_pos k with rfl | hk
    · refine ⟨0, by omega, ?_, ?_, fun i hi => ?_, fun i hi => by omega⟩
      · simp [bestQ]
      · simp [bestQ]
      · obtain rfl : i = 0 := by omega
        exact Int.le_refl _
    · obtain ⟨j, hj, h1, h2, h3, h4⟩ := bestQ_is h0 k hk
      by_cases hc : (bestQ f k).1 < 0 ∨ f k < (bestQ f k).1
      · have hlt : f k < f j := by
          rcases hc with hc | hc
          · rw [h2] at hc; have := h0 j; omega
          · rw [h2] at hc; exact hc
        refine ⟨k, by omega, by simp only [bestQ]; rw [if_pos hc], by simp only [bestQ]; rw [if_pos hc], fun i hi => ?_, fun i hi => ?_⟩
        · rcases Nat.lt_succ_iff_lt_or_eq.1 hi with hi | rfl
          · have := h3 i hi; omega
          · exact Int.le_refl _
        · have := h3 i hi; omega
      · refine ⟨j, by omega, by simp only [bestQ]; rw [if_neg hc]; exact h1, by simp only [bestQ]; rw [if_neg hc]; exact h2, fun i hi => ?_, h4⟩
        rcases Nat.lt_succ_iff_lt_or_eq.1 hi with hi | rfl
        · exact h3 i hi
        · rw [h2] at hc; omega
def cenR (ps : List Pt) : Int × Int × Int := if treeC ps 0 = 0 then ((bestQ (hgtN ps) ps.length).2, (bestQ (hgtN ps) ps.length).1, 0) else (0, 0, 1)
def ThrRes (w : World) (r : Int × Int × Int) (e : Ending) (w' : World) : Prop := e = .returned (.tuple #[.int .i64 r.1, .int .i64 r.2.1, .int .i64 r.2.2]) ∧ Below w.heap.size w w'
theorem ThrRes.of {w : World} {r : Int × Int × Int} {a b c : Int} {w' : World} (h : (a, b, c) = r) (hb : Below w.heap.size w w') : ThrRes w r (.returned (.tuple #[.int .i64 a, .int .i64 b, .int .i64 c])) w' := by
  subst h; exact ⟨rfl, hb⟩
theorem treeC0 (ps : List Pt) (h : treeC ps 0 ≠ 0) : treeC ps 0 = 1 ∧ (shapeB ps && oneB ps) = false := by
  unfold treeC at h ⊢
  cases hb : shapeB ps && oneB ps
  · exact ⟨rfl, rfl⟩
  · rw [hb] at h
    exfalso
    apply h
    rw [if_pos rfl, if_pos]
    rw [inB_true]
    simp only [Bool.and_eq_true] at hb
    have := (shp_of hb.1).2.1
    omega
/-- the least of a list that is not empty -/
def minQ (f : Nat → Int) : Nat → Int
  | 0 => f 0
  | k + 1 => min (minQ f k) (f (k + 1))
theorem minQ_eq {f : Nat → Int} {m : Int} {j : Nat} : ∀ k, j ≤ k → f j = m → (∀ i, i ≤ k → m ≤ f i) → minQ f k = m
  | 0, hj, h1, h2 => by obtain rfl : j = 0 := by omega
                        exact h1
  | k + 1, hj, h1, h2 => by
    simp only [minQ]
    by_cases hjk : j ≤ k
    · rw [minQ_eq k hjk h1 (fun i hi => h2 i (by omega))]
      exact Int.min_eq_left (h2 _ (Nat.le_refl _))
    · obtain rfl : j = k + 1 := by omega
      rw [h1]
      apply Int.min_eq_right
      have : ∀ q, q ≤ k → m ≤ minQ f q := by
        intro q
        induction q with
        | zero => intro _; exact h2 0 (by omega)
        | succ q ih => intro hq; simp only [minQ]; have := ih (by omega); have := h2 (q + 1) (by omega); omega
      exact this k (Nat.le_refl _)
set_option maxHeartbeats 1000000 in
theorem MinQ_any (A : Option Addr) (n c : Nat) (l : List Int) (f : Nat → Int) (w : World) (h : RdSl 1 RInt w A (n + 1) l) (hf : ∀ k, k ≤ n → l[k]? = some (f k)) (hm : n ≤ 100000) :
    Calls Try.prog 47 #[.slice A (n + 1) c] w fun e w' => e = .returned (.int .i64 (minQ f n)) ∧ w = w' := by
  obtain ⟨b, o, rfl, hb, hc⟩ := h.ptr (by omega)
  have hH := Lib.hid h
  have hcH := Lib.hid hc
  have c0 := hc 0 _ (hf 0 (by omega))
  unfold RInt at c0
  simp only [Nat.zero_mul, Nat.add_zero] at c0
  have hfH := Lib.hid hf
  obtain ⟨x0, hx0⟩ : ∃ x0, f 0 = x0 := ⟨_, rfl⟩
  rw [hx0] at c0
  have hx0H := Lib.hid hx0
  have hn1 : ¬ (n : Int) + 1 < 1 := by omega
  clear h hc hf hx0
  go_enter Try.func47, Try.ntmps47
  go_wp2
  go_loopg [4, 3] n (fun gk i v wr => ∃ k : Nat, k + gk = n ∧ i = .int .i64 ((k : Int) + 1) ∧ v = .int .i64 (minQ f k) ∧ w = wr)
  case atStart => exact ⟨0, by omega, by go_num, by rw [show minQ f 0 = x0 from hx0H.out], rfl⟩
  case round =>
    obtain ⟨k, hk, rfl, rfl, rfl⟩ := hrel
    by_cases hkn : k < n
    · have cx := hcH.out (k + 1) _ (hfH.out (k + 1) (by omega))
      unfold RInt at cx
      simp only [Nat.mul_one] at cx
      have hmn := Lib.hid (show minQ f (k + 1) = min (minQ f k) (f (k + 1)) from rfl)
      obtain ⟨v, hv⟩ : ∃ v, minQ f k = v := ⟨_, rfl⟩
      obtain ⟨x, hx⟩ : ∃ x, f (k + 1) = x := ⟨_, rfl⟩
      rw [hv, hx] at hmn
      rw [hv]
      rw [hx] at cx
      have k1 : (0 : Int) ≤ (k : Int) + 1 := by omega
      clear hv hx
      go_wp2
      go_roundg (n - (k + 1))
      case measure => omega
      case rel => exact ⟨k + 1, by omega, by go_num, by rw [hmn.out], rfl⟩
    · obtain rfl : k = n := by omega
      go_wp2
      go_ret
      exact ⟨rfl, rfl⟩
set_option maxHeartbeats 1000000 in
theorem IndexQ_any (A : Option Addr) (n c : Nat) (l : List Int) (j : Nat) (v : Int) (w : World) (h : RdSl 1 RInt w A n l) (hn : n ≤ 100000) (hj : j < n) (h1 : l[j]? = some v) (h2 : ∀ i x, i < j → l[i]? = some x → x ≠ v) :
    Calls Try.prog 48 #[.slice A n c, .int .i64 v] w fun e w' => e = .returned (.int .i64 (j : Int)) ∧ w = w' := by
  obtain ⟨b, o, rfl, hb, hc⟩ := h.ptr (by omega)
  have hH := Lib.hid h
  have hcH := Lib.hid hc
  have h1H := Lib.hid h1
  have h2H := Lib.hid h2
  clear h hc h1 h2
  go_enter Try.func48, Try.ntmps48
  go_wp2
  go_loopg [8] n (fun gk i wr => ∃ k : Nat, k + gk = n ∧ i = .int .i64 (k : Int) ∧ k ≤ j ∧ w = wr)
  case atStart => exact ⟨0, by omega, rfl, by omega, rfl⟩
  case round =>
    obtain ⟨k, hk, rfl, hkj, rfl⟩ := hrel
    have hkn : k < n := by omega
    obtain ⟨x, hx⟩ := hH.out.get hkn
    have cx := hcH.out k x hx
    unfold RInt at cx
    simp only [Nat.mul_one] at cx
    by_cases hkj' : k = j
    · subst hkj'
      obtain rfl : x = v := by rw [h1H.out] at hx; injection hx with hx; exact hx.symm
      clear hx
      go_wp2
      go_ret
      exact ⟨rfl, rfl⟩
    · have hne := h2H.out k x (by omega) hx
      have hv : (v == x) = false := by simpa using fun e => hne e.symm
      have hjH := Lib.hid hkj'
      clear hx hne hkj'
      go_wp2
      go_roundg (n - (k + 1))
      case measure => omega
      case rel => exact ⟨k + 1, by omega, by go_num, by have := hjH.out; omega, rfl⟩
theorem hgtN_nn (ps : List Pt) (k : Nat) : 0 ≤ hgtN ps k := maxQ_nn _
theorem map_rng {f : Nat → Int} {n k : Nat} (h : k < n) : ((List.range n).map f)[k]? = some (f k) := by simp [h]
set_option maxRecDepth 100000 in
set_option maxHeartbeats 4000000 in
theorem CenterOf_any (A : Option Addr) (n c : Nat) (ps : List Pt) (w : World) (h : RdSl 2 RPt w A n ps) (hn : n ≤ 1073741824) :
    Calls Try.prog 22 #[.slice A n c] w (ThrRes w (cenR ps)) := by
  obtain ⟨i1, hi', hz0', hz1', hz2'⟩ := info_parts infoI
  have hl := Lib.hid h.len
  have hH := Lib.hid h
  clear h
  by_cases hc : treeC ps 0 = 0
  · have hR := Lib.hid (show cenR ps = ((bestQ (hgtN ps) ps.length).2, (bestQ (hgtN ps) ps.length).1, 0) by unfold cenR; rw [if_pos hc])
    obtain ⟨hS, hone, hp1, hp2, _⟩ := treeC_zero hc
    have hB := Lib.hid (show (shapeB ps && oneB ps) = true by
      unfold treeC at hc
      cases hb : shapeB ps && oneB ps
      · rw [hb] at hc; simp at hc
      · rfl)
    have hSH := Lib.hid hS
    rw [hl.out] at hp1 hp2
    obtain ⟨j, hj, b1, b2, b3, b4⟩ := bestQ_is (hgtN_nn ps) ps.length (by rw [hl.out]; omega)
    rw [hl.out] at hj b3
    have b1H := Lib.hid b1
    have b2H := Lib.hid b2
    have b3H := Lib.hid b3
    have b4H := Lib.hid b4
    clear hc hS hone b1 b2 b3 b4
    go_enter Try.func22, Try.ntmps22
    go_wp2_with (go_at_call 46; refine (IsConnected_any _ _ _ ps _ hH.out hn).mono ?_; rw [hB.out]; rintro e w1 ⟨rfl, hb1⟩; have hb1H := Lib.hid hb1; clear hb1)
    have hq := hb1H.out.size
    go_loopg [14, 5] n (fun g i v wr => ∃ (k : Nat), k + g = n ∧ i = .int .i64 (k : Int) ∧ Hid (wr.ownsRow w1.heap.size 2 1 v k (intsQ ((List.range k).map (hgtN ps)))) ∧ Hid (Below w1.heap.size w1 wr))
    case atStart => exact ⟨0, by omega, rfl, Lib.hid (World.ownsRow_nil _ _ _ _), Lib.hid (bl_refl _)⟩
    case round =>
      obtain ⟨k, hk, rfl, hO, hbw⟩ := hrel
      have hszl := hbw.out.size
      by_cases hkn : k < n
      · have hAw := (hH.out.below RPt.stable hb1H.out).below RPt.stable hbw.out
        obtain ⟨bb', ob', rfl, hbb', hbc⟩ := hAw.ptr (by omega)
        obtain ⟨⟨px, py⟩, hp⟩ := hAw.get hkn
        obtain ⟨p0, p1⟩ := hbc k _ hp
        simp only at p0 p1
        have hpH := Lib.hid hp
        have htk := Lib.hid (show (List.range (k + 1)).map (hgtN ps) = (List.range k).map (hgtN ps) ++ [hgtN ps k] by rw [List.range_succ, List.map_append]; rfl)
        have hhl := hgtN_le (ps := ps) (r := k) (by rw [hl.out]; exact hkn)
        rw [hl.out] at hhl
        obtain ⟨hk', hhk⟩ : ∃ x, hgtN ps k = x := ⟨_, rfl⟩
        rw [hhk] at htk hhl
        have hhkH := Lib.hid hhk
        obtain ⟨A1, c1', rfl⟩ := ownsRow_form hO.out
        have hAwH := Lib.hid hAw
        clear hbc hp hAw hhk
        go_wp2_with (first
          | (go_at_call 44; refine (height_any _ _ _ ps k _ _ _ (hAwH.out.below RPt.stable (by exact bel_)) hSH.out (by omega) hpH.out).mono ?_; rw [hhkH.out]; rintro e w3 ⟨rfl, hb3⟩; have hs3 := hb3.size; have hb3H := Lib.hid (show Below wr.heap.size wr w3 from (bl_al (bl_refl wr) _).trans (hb3.mono (by simp))); simp at hs3; clear hb3)
          | (at_builtin; refine wpList_append_own_at _ rfl _ _ 48 rfl w1.heap.size 2 i1 (.int .i64 0) 1 8 Try.underlying48 hi' hz0' hz1' hz2' rfl (by decide) (.slice A1 k c1') k (intsQ ((List.range k).map (hgtN ps))) rfl ((ownsRow_below hO.out hb3H.out).alloc _) ⟨w3.heap.size, 0, none⟩ 1 1 [.int .i64 hk'] rfl rfl (cell_one_new _ _ _) (fun x hx => by simp at hx; subst hx; rfl) (by unfold maxLen; omega) (by omega) (by simp; omega) ?_; intro v5 w5 hown5 hgrow5 _ hat5; have hown5H := Lib.hid hown5; have hgrow5H := Lib.hid hgrow5; clear hown5 hgrow5 hat5))
        go_roundg (n - (k + 1))
        case measure => omega
        case rel =>
          refine ⟨k + 1, by omega, by go_num, Lib.hid ?_, Lib.hid ?_⟩
          · rw [htk.out, ← intsQ_snoc]; exact hown5H.out
          · exact (((hbw.out.trans (hb3H.out.mono hszl)).alloc (by omega) _).grown hgrow5H.out (by simp; omega) (fun g e => (hO.out.lt g e).1))
      · obtain rfl : k = n := by omega
        obtain ⟨A1, c1', rfl⟩ := ownsRow_form hO.out
        have hrd := Lib.hid (rdQ_of hO.out (by simp))
        obtain ⟨m, rfl⟩ : ∃ m, k = m + 1 := ⟨k - 1, by omega⟩
        have hmin := Lib.hid (minQ_eq (f := hgtN ps) (m := hgtN ps j) (j := j) m (by omega) rfl (fun i hi => b3H.out i (by omega)))
        obtain ⟨y, hy⟩ : ∃ y, hgtN ps j = y := ⟨_, rfl⟩
        have hyH := Lib.hid hy
        rw [hy] at hmin
        clear hy
        go_wp2_with (first
          | (go_at_call 47; refine (MinQ_any _ m _ _ (hgtN ps) _ hrd.out (fun k hk => map_rng (by omega)) (by omega)).mono ?_; rw [hmin.out]; rintro e _ ⟨rfl, rfl⟩)
          | (go_at_call 48; refine (IndexQ_any _ (m + 1) _ _ j y _ hrd.out (by omega) hj (by rw [map_rng hj, hyH.out]) (fun i x hi hx => by rw [map_rng (by omega)] at hx; injection hx with hx; have := b4H.out i hi; rw [hyH.out, hx] at this; omega)).mono ?_; rintro e _ ⟨rfl, rfl⟩))
        go_ret3
        exact ThrRes.of (by rw [hR.out, b1H.out, b2H.out, hyH.out]) (hb1H.out.trans (hbw.out.mono hq))
  · obtain ⟨h1, h2⟩ := treeC0 ps hc
    have hR := Lib.hid (show cenR ps = (0, 0, 1) by unfold cenR; rw [if_neg hc])
    have h2H := Lib.hid h2
    clear hc h1 h2
    go_enter Try.func22, Try.ntmps22
    go_wp2_with (go_at_call 46; refine (IsConnected_any _ _ _ ps _ hH.out hn).mono ?_; rw [h2H.out]; rintro e w1 ⟨rfl, hb1⟩; have hb1H := Lib.hid hb1; clear hb1)
    go_ret3
    exact ThrRes.of hR.out.symm hb1H.out
end Go.Proofs.Ytpnilnpgiampgaa
/- Walks: the center of a shape, of the reference. -/

namespace Go.Proofs.Ytpnilnpgiampgaa
open Go.RowKit Go.Shelf
attribute [local go_sem] BelowBy.cell BelowBy.cell_drew stillUpon givesUpon

set_option maxRecDepth 100000 in
set_option maxHeartbeats 4000000 in
theorem sCenterOf_any (A : Option Addr) (n c : Nat) (ps : List Pt) (w : World) (h : RdSl 2 RPt w A n ps) (hn : n ≤ 1073741824) :
    Calls Try.prog 21 #[.slice A n c] w (ThrRes w (cenR ps)) := by
  have hl := Lib.hid h.len
  have hH := Lib.hid h
  clear h
  by_cases hc : treeC ps 0 = 0
  · have hR := Lib.hid (show cenR ps = ((bestQ (hgtN ps) ps.length).2, (bestQ (hgtN ps) ps.length).1, 0) by unfold cenR; rw [if_pos hc])
    have hcH := Lib.hid hc
    obtain ⟨hS, hone, hp1, hp2, _⟩ := treeC_zero hc
    have hSH := Lib.hid hS
    rw [hl.out] at hp1 hp2
    clear hc hS hone
    go_enter Try.func21, Try.ntmps21
    go_wp2_with (go_at_call 40; refine (l22Asked_at hH.out hn hcH.out).mono ?_; rintro e w1 ⟨rfl, hb1⟩; have hb1H := Lib.hid hb1; clear hb1)
    have hq := hb1H.out.size
    go_loopg [8, 6, 7] n (fun g i b a wr => ∃ (k : Nat), k + g = n ∧ i = .int .i64 (k : Int) ∧ b = .int .i64 (bestQ (hgtN ps) k).1 ∧ a = .int .i64 (bestQ (hgtN ps) k).2 ∧ Hid (Below w1.heap.size w1 wr))
    case atStart => exact ⟨0, by omega, rfl, rfl, rfl, Lib.hid (bl_refl _)⟩
    case round =>
      obtain ⟨k, hk, rfl, rfl, rfl, hbw⟩ := hrel
      have hszl := hbw.out.size
      by_cases hkn : k < n
      · have hsu : bestQ (hgtN ps) (k + 1) = if (bestQ (hgtN ps) k).1 < 0 ∨ hgtN ps k < (bestQ (hgtN ps) k).1 then (hgtN ps k, (k : Int)) else bestQ (hgtN ps) k := rfl
        have hhl := hgtN_le (ps := ps) (r := k) (by rw [hl.out]; exact hkn)
        rw [hl.out] at hhl
        obtain ⟨x, hx⟩ : ∃ x, hgtN ps k = x := ⟨_, rfl⟩
        obtain ⟨B, hB⟩ : ∃ B, bestQ (hgtN ps) k = B := ⟨_, rfl⟩
        obtain ⟨b0, a0⟩ := B
        rw [hx, hB] at hsu
        rw [hx] at hhl
        simp only [hB]
        simp only at hsu
        have hxH := Lib.hid hx
        clear hx hB
        have hAw := Lib.hid ((hH.out.below RPt.stable hb1H.out).below RPt.stable hbw.out)
        by_cases h1 : b0 < 0
        · have hs := Lib.hid (hsu.trans (if_pos (.inl h1)))
          clear hsu
          go_wp2_with (go_at_call 41; refine (l22Height_any _ _ _ ps k _ hAw.out hSH.out (by omega) hkn).mono ?_; rw [hxH.out]; rintro e w3 ⟨rfl, hb3⟩; have hb3H := Lib.hid hb3; clear hb3)
          go_roundg (n - (k + 1))
          case measure => omega
          case rel => exact ⟨k + 1, by omega, by go_num, by rw [hs.out], by rw [hs.out], Lib.hid (hbw.out.trans (hb3H.out.mono hszl))⟩
        · by_cases h2 : x < b0
          · have hs := Lib.hid (hsu.trans (if_pos (.inr h2)))
            clear hsu
            go_wp2_with (go_at_call 41; refine (l22Height_any _ _ _ ps k _ hAw.out hSH.out (by omega) hkn).mono ?_; rw [hxH.out]; rintro e w3 ⟨rfl, hb3⟩; have hb3H := Lib.hid hb3; clear hb3)
            go_roundg (n - (k + 1))
            case measure => omega
            case rel => exact ⟨k + 1, by omega, by go_num, by rw [hs.out], by rw [hs.out], Lib.hid (hbw.out.trans (hb3H.out.mono hszl))⟩
          · have hs := Lib.hid (hsu.trans (if_neg (by omega)))
            clear hsu
            go_wp2_with (go_at_call 41; refine (l22Height_any _ _ _ ps k _ hAw.out hSH.out (by omega) hkn).mono ?_; rw [hxH.out]; rintro e w3 ⟨rfl, hb3⟩; have hb3H := Lib.hid hb3; clear hb3)
            go_roundg (n - (k + 1))
            case measure => omega
            case rel => exact ⟨k + 1, by omega, by go_num, by rw [hs.out], by rw [hs.out], Lib.hid (hbw.out.trans (hb3H.out.mono hszl))⟩
      · obtain rfl : k = n := by omega
        go_wp2
        go_ret3
        exact ThrRes.of (by rw [hR.out, hl.out]) (hb1H.out.trans (hbw.out.mono hq))
  · obtain ⟨h1, h2⟩ := treeC0 ps hc
    have hR := Lib.hid (show cenR ps = (0, 0, 1) by unfold cenR; rw [if_neg hc])
    have h1H := Lib.hid h1
    clear hc h1 h2
    go_enter Try.func21, Try.ntmps21
    go_wp2_with (go_at_call 40; refine (l22Asked_at hH.out hn h1H.out).mono ?_; rintro e w1 ⟨rfl, hb1⟩; have hb1H := Lib.hid hb1; clear hb1)
    go_ret3
    exact ThrRes.of hR.out.symm hb1H.out
end Go.Proofs.Ytpnilnpgiampgaa
