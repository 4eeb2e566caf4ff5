import Derived.Test.YtpnahobgmemdjaaGAO
import Derived.Test.YtpnahobgmemdjaaGAJ
import Derived.Test.YtpnahobgmemdjaaGBG
import Derived.Test.YtpnahobgmemdjaaGAU
import Derived.ArgAppend
import Derived.Maps.RangeWalk
set_option linter.unusedSimpArgs false
set_option linter.unusedVariables false
/- Walks: a row of rows of points from which those are struck out that a closure names. -/


namespace Go.Proofs.Ytpnahobgmemdjaa
open Go.RowKit Go.Shelf
attribute [local go_sem] BelowBy.cell BelowBy.cell_drew stillUpon givesUpon BelowBy.cell_drew2 BelowBy.cell_drew3

/-- a row's slice and what it reads as -/
abbrev SlR := Value × List Pt
def TellsR (g : Nat) (w : World) (f : FuncId) (caps : Array Value) (del : SlR → Bool) (bs : List SlR) : Prop :=
  ∀ W (e : SlR), Gb g w W → e ∈ bs → Calls Try.prog f (#[e.1] ++ caps) W fun e' w' => e' = .returned (.bool (del e)) ∧ Below W.heap.size W w'
theorem zero1Q (n : Nat) : ∀ u ∈ (Builtin.zeroCells #[Value.slice none 0 0] n).toList, u.oneCell' = true := by
  intro u hu
  simp only [Builtin.zeroCells, Array.toList_map, List.mem_map] at hu
  obtain ⟨i, _, rfl⟩ := hu
  simp [Nat.mod_one]
  rfl
/-- what is left -/
def DelRw (base g : Nat) (w : World) (l : List SlR) (e : Ending) (w' : World) : Prop := ∃ c, e = .returned (.slice (some ⟨g, 0, none⟩) l.length c) ∧ w'.ownsRow base 42 1 (.slice (some ⟨g, 0, none⟩) l.length c) l.length (l.map (·.1)) ∧ Gb g w w'
theorem DelRw.of {base g n : Nat} {w w' : World} {l : List SlR} {c : Nat} (hn : n = l.length) (h : w'.ownsRow base 42 1 (.slice (some ⟨g, 0, none⟩) n c) n (l.map (·.1))) (hb : Gb g w w') : DelRw base g w l (.returned (.slice (some ⟨g, 0, none⟩) n c)) w' := by
  subst hn; exact ⟨c, rfl, h, hb⟩
end Go.Proofs.Ytpnahobgmemdjaa
/- Words: some of the rows that a call has made; such rows struck out. -/



namespace Go.Proofs.Ytpnahobgmemdjaa
open Go.RowKit Go.Shelf
theorem ownsRow_gb {g : Nat} {w w' : World} {base : Nat} {e : TypeId} {size : Nat} {v : Value} {n : Nat} {xs : List Value} (h : w.ownsRow base e size v n xs) (hg : Gb g w w') (hne : v.ownBlock ≠ some g) : w'.ownsRow base e size v n xs := h.kept hg (.inr hne)
theorem Own2.sub {w w' : World} {base g : Nat} {T E : TypeId} {size : Nat} {v v' : Value} {us : List Value} {rows : List (List Value)} (h : Own2 w base T E size v us rows) (hv : v.ownBlock = some g) {bs : List (Value × List Value)} (hbs : bs.Sublist (us.zip rows))
    (hout : w'.ownsRow base T 1 v' bs.length (bs.map (·.1))) (hv' : v'.ownBlock = some g) (hg : Gb g w w') : Own2 w' base T E size v' (bs.map (·.1)) (bs.map (·.2)) := by
  have hin : ∀ (k : Nat) (a : Value × List Value), bs[k]? = some a → ∃ i, us[i]? = some a.1 ∧ rows[i]? = some a.2 := fun k a ha => by
    have hm := hbs.subset (List.mem_of_getElem? ha)
    obtain ⟨i, hi⟩ := List.mem_iff_getElem?.1 hm
    rw [List.getElem?_zip_eq_some] at hi
    exact ⟨i, hi⟩
  have hpw : (us.zip rows).Pairwise fun a b => ∀ x, a.1.ownBlock = some x → b.1.ownBlock ≠ some x := by
    rw [List.pairwise_iff_getElem]
    intro i j hi hj hij x hx hy
    have ei := List.getElem?_eq_getElem hi
    have ej := List.getElem?_eq_getElem hj
    rw [List.getElem?_zip_eq_some] at ei ej
    have := h.apart i j _ _ x ei.1 ej.1 hx hy
    omega
  have hpb := hpw.sublist hbs
  have hlen : (bs.map (·.1)).length = bs.length := List.length_map _
  refine ⟨by rw [hlen]; exact hout, by rw [List.length_map, List.length_map], fun k u r hu hr => ?_, fun j k u u' x hj hk hx hx' => ?_, fun k u x hu hx hvx => ?_⟩
  · rw [List.getElem?_map, Option.map_eq_some_iff] at hu hr
    obtain ⟨a, ha, rfl⟩ := hu
    obtain ⟨b, hb, rfl⟩ := hr
    rw [ha] at hb
    injection hb with hb
    subst hb
    obtain ⟨i, h1, h2⟩ := hin k a ha
    obtain ⟨m, hm⟩ := h.inner i _ _ h1 h2
    refine ⟨m, ownsRow_gb hm hg fun e => ?_⟩
    exact h.off i _ g h1 e hv
  · rw [List.getElem?_map, Option.map_eq_some_iff] at hj hk
    obtain ⟨a, ha, rfl⟩ := hj
    obtain ⟨b, hb, rfl⟩ := hk
    have la := lt_of_get ha
    have lb := lt_of_get hb
    rw [List.getElem?_eq_getElem la] at ha
    rw [List.getElem?_eq_getElem lb] at hb
    injection ha with ha
    injection hb with hb
    rw [List.pairwise_iff_getElem] at hpb
    rcases Nat.lt_trichotomy j k with hlt | heq | hlt
    · exact absurd hx' (hb ▸ hpb j k la lb hlt x (ha ▸ hx))
    · exact heq
    · exact absurd hx (ha ▸ hpb k j lb la hlt x (hb ▸ hx'))
  · rw [List.getElem?_map, Option.map_eq_some_iff] at hu
    obtain ⟨a, ha, rfl⟩ := hu
    obtain ⟨i, h1, h2⟩ := hin k a ha
    rw [hv'] at hvx
    injection hvx with hvx
    subst hvx
    exact h.off i _ _ h1 hx hv
/-- slices and what they read as -/
def prsR (us : List Value) (P : List (List Pt)) : List SlR := us.zip P
theorem prsR_fst {us : List Value} {P : List (List Pt)} (h : us.length = P.length) : (prsR us P).map (·.1) = us := List.map_fst_zip (by omega)
theorem prsR_snd {us : List Value} {P : List (List Pt)} (h : us.length = P.length) : (prsR us P).map (·.2) = P := List.map_snd_zip (by omega)
theorem prsR_len {us : List Value} {P : List (List Pt)} (h : us.length = P.length) : (prsR us P).length = P.length := by unfold prsR; rw [List.length_zip]; omega
theorem prsR_keep {us : List Value} {P : List (List Pt)} (h : us.length = P.length) (p : List Pt → Bool) : ((prsR us P).filter fun e => p e.2).map (·.2) = P.filter p := by
  have : (prsR us P).filter (fun e => p e.2) = (prsR us P).filter (p ∘ (·.2)) := rfl
  rw [this, ← List.filter_map, prsR_snd h]
theorem Own2.struck {w w' : World} {base g n n' c c' : Nat} {us : List Value} {P : List (List Pt)} (h : Own2 w base 42 34 2 (.slice (some ⟨g, 0, none⟩) n c) us (P.map ptCells)) (p : List Pt → Bool)
    (hn : ((prsR us P).filter fun e => p e.2).length = n') (hout : w'.ownsRow base 42 1 (.slice (some ⟨g, 0, none⟩) n' c') n' (((prsR us P).filter fun e => p e.2).map (·.1))) (hg : Gb g w w') :
    Own2 w' base 42 34 2 (.slice (some ⟨g, 0, none⟩) n' c') (((prsR us P).filter fun e => p e.2).map (·.1)) ((P.filter p).map ptCells) := by
  subst hn
  have hul : us.length = P.length := by rw [h.len, List.length_map]
  have h2 := h.sub (g := g) (w' := w') (v' := .slice (some ⟨g, 0, none⟩) ((prsR us P).filter fun e => p e.2).length c') rfl (bs := ((prsR us P).filter fun e => p e.2).map fun e => (e.1, ptCells e.2)) ?_ ?_ rfl hg
  · rw [List.map_map, List.map_map] at h2
    rw [← prsR_keep hul p, List.map_map]
    exact h2
  · have : us.zip (P.map ptCells) = (prsR us P).map fun e => (e.1, ptCells e.2) := by
      unfold prsR
      rw [List.zip_map_right]
      rfl
    rw [this]
    exact List.Sublist.map _ List.filter_sublist
  · rw [List.map_map, List.length_map]
    exact hout
end Go.Proofs.Ytpnahobgmemdjaa
/- Rows that are read from the front and appended at the end; maps from points to pointers that a call makes. -/




namespace Go.Proofs.Ytpnahobgmemdjaa
open Go.RowKit Go.Shelf
open Go.Maps (Keyed)
set_option maxRecDepth 100000
/-- a row of a block of the call's own that begins at some place of it -/
def QRow (w : World) (base size : Nat) (v : Value) (n : Nat) (xs : List Value) : Prop :=
  xs.length = n * size ∧ ∃ g off cap, v = .slice (some ⟨g, off, none⟩) n cap ∧ base ≤ g ∧ g < w.heap.size ∧ n ≤ cap ∧ cap ≤ maxLen ∧
    (∀ j, j < cap * size → (w.cell? ⟨g, off + j, none⟩).isSome = true ∧ w.frozen? ⟨g, off + j, none⟩ = false) ∧ ∀ j u, xs[j]? = some u → w.cell? ⟨g, off + j, none⟩ = some u
section
variable {w w' : World} {base size n : Nat} {v : Value} {xs : List Value}
theorem QRow.of_own {e : TypeId} (h : w.ownsRow base e size v n xs) (hn : 0 < n) : QRow w base size v n xs := by
  refine ⟨h.1, ?_⟩
  rcases h.2 with ⟨_, h0⟩ | ⟨g, cap, cur, rfl, hb, hg, hnc, hcm, hcs, htake⟩
  · omega
  · have hf : ∀ j, w.frozen? ⟨g, j, none⟩ = false := fun j => by simp [World.frozen?, hg]
    refine ⟨g, 0, cap, rfl, hb, (Array.getElem?_eq_some_iff.1 hg).1, hnc, hcm, fun j hj => ⟨?_, hf _⟩, fun j u hu => ?_⟩
    · rw [Nat.zero_add, cell_of_row w g j cur e (0, 0) hg, Array.getElem?_eq_getElem (by rw [hcs]; exact hj)]; rfl
    · rw [Nat.zero_add, cell_of_row w g j cur e (0, 0) hg]
      rw [← htake, List.getElem?_take] at hu
      split at hu
      · simpa using hu
      · cases hu
theorem QRow.form (h : QRow w base size v n xs) : ∃ g off cap, v = .slice (some ⟨g, off, none⟩) n cap ∧ base ≤ g ∧ g < w.heap.size ∧ n ≤ cap := by
  obtain ⟨_, g, off, cap, h1, h2, h3, h4, _⟩ := h
  exact ⟨g, off, cap, h1, h2, h3, h4⟩
theorem QRow.lt (h : QRow w base size v n xs) : ∀ g, v.ownBlock = some g → base ≤ g ∧ g < w.heap.size := by
  obtain ⟨g, off, cap, rfl, h2, h3, _⟩ := h.form
  intro k hk
  simp [Value.ownBlock] at hk
  subst hk
  exact ⟨h2, h3⟩
theorem QRow.kept {row : Option Nat} (h : QRow w base size v n xs) (hg : w.grownBy w' row) (hne : v.ownBlock ≠ row) : QRow w' base size v n xs := by
  obtain ⟨h0, g, off, cap, rfl, h2, h3, h4, h5, h6, h7⟩ := h
  have hb := hg.block g h3 (by simpa [Value.ownBlock] using hne)
  refine ⟨h0, g, off, cap, rfl, h2, Nat.lt_of_lt_of_le h3 hg.size, h4, h5, fun j hj => ?_, fun j u hu => ?_⟩
  · rw [World.cell?_of_block (a := ⟨g, off + j, none⟩) hb, World.frozen?_of_block (a := ⟨g, off + j, none⟩) hb]
    exact h6 j hj
  · rw [World.cell?_of_block (a := ⟨g, off + j, none⟩) hb]
    exact h7 j u hu
theorem QRow.below (h : QRow w base size v n xs) (hb : Below w.heap.size w w') : QRow w' base size v n xs := by
  refine h.kept (grown_below hb none) ?_
  obtain ⟨g, off, cap, rfl, _⟩ := h.form
  simp [Value.ownBlock]
/-- the first -/
theorem QRow.head {g off cap : Nat} {x : Value} (h : QRow w base 1 (.slice (some ⟨g, off, none⟩) n cap) n (x :: xs)) : w.cell? ⟨g, off, none⟩ = some x := by
  obtain ⟨h0, g', off', cap', hv, h2, h3, h4, h5, h6, h7⟩ := h
  cases hv
  exact h7 0 x rfl
/-- all but the first -/
theorem QRow.pop {g off cap : Nat} {x : Value} (h : QRow w base 1 (.slice (some ⟨g, off, none⟩) (n + 1) cap) (n + 1) (x :: xs)) : QRow w base 1 (.slice (if cap = 1 then some ⟨g, off, none⟩ else some ⟨g, off + 1, none⟩) n (cap - 1)) n xs := by
  obtain ⟨h0, g', off', cap', hv, h2, h3, h4, h5, h6, h7⟩ := h
  cases hv
  simp only [List.length_cons, Nat.mul_one] at h0
  by_cases hc : cap = 1
  · subst hc
    obtain rfl : n = 0 := by omega
    obtain rfl : xs = [] := List.eq_nil_of_length_eq_zero (by omega)
    simp only [if_true]
    exact ⟨rfl, g, off, 0, rfl, h2, h3, Nat.le_refl _, Nat.zero_le _, fun j hj => by omega, fun j u hu => by simp at hu⟩
  · simp only [if_neg hc]
    refine ⟨by omega, g, off + 1, cap - 1, rfl, h2, h3, by omega, by omega, fun j hj => ?_, fun j u hu => ?_⟩
    · rw [Nat.add_assoc]; exact h6 (1 + j) (by omega)
    · rw [Nat.add_assoc, Nat.add_comm 1 j]; exact h7 (j + 1) u (by simpa using hu)
theorem gby_setCells (b : Nat) : ∀ (vs : List Value) (o : Nat) (w : World), w.grownBy (w.setCells b o vs) (some b)
  | [], o, w => ⟨rfl, rfl, rfl, Nat.le_refl _, fun _ _ _ => rfl⟩
  | v :: r, o, w => by
    have ih := gby_setCells b r (o + 1) (w.setCell ⟨b, o, none⟩ v)
    refine ⟨ih.os, ih.tape, ih.output, ?_, fun k hk hne => ?_⟩
    · have := ih.size
      rw [World.size_setCell] at this
      exact this
    rw [show w.setCells b o (v :: r) = (w.setCell ⟨b, o, none⟩ v).setCells b (o + 1) r from rfl, ih.block k (by simpa using hk) hne]
    exact Below.heap_setCell _ _ _ _ (fun e => hne (by rw [e]))
end
section
variable {P : Program} {w : World}
theorem run_append_q (base : Nat) (t ty e : TypeId) (i : TypeInfo) (z : Value) (size bytes : Nat) (ht : P.underlying t = some (.slice e)) (hi : P.info? e = some i) (hz : i.zero = some z)
    (hsize : i.size = size) (hby : i.bytes = bytes) (hzs : z.cells.size = size) (hsz : 0 < size) (v : Value) (n : Nat) (xs : List Value) (hq : QRow w base size v n xs)
    (a : Addr) (m c : Nat) (news : List Value) (hl : news.length = m * size) (hnews : ∀ j u, news[j]? = some u → w.cell? (a.add j) = some u) (h1 : ∀ u ∈ news, u.oneCell' = true) (hm : 0 < m)
    (h63 : n + m ≤ maxLen) (hbytes : (n + m) * bytes ≤ 140737488355328) (hbase : base ≤ w.heap.size) :
    ∃ v' w', (Builtin.append_ #[t, t] ty #[v, .slice (some a) m c]).run P w = .ok v' w' ∧ QRow w' base size v' (n + m) (xs ++ news) ∧ w.grownBy w' v.ownBlock ∧ (v'.ownBlock = v.ownBlock ∨ v'.ownBlock = some w.heap.size) := by
  obtain ⟨h0, g, off, cap, rfl, h2, h3, h4, h5, h6, h7⟩ := hq
  by_cases hr : n + m ≤ cap
  · subst hsize
    have hfit : n * i.size + news.length ≤ cap * i.size := by rw [hl, ← Nat.add_mul]; exact Nat.mul_le_mul_right _ hr
    have hc : ∀ j, j < news.length → (w.cell? ⟨g, off + n * i.size + j, none⟩).isSome = true ∧ w.frozen? ⟨g, off + n * i.size + j, none⟩ = false := fun j hj => by
      rw [Nat.add_assoc]; exact h6 (n * i.size + j) (by omega)
    have hrun := run_append_room_cells (P := P) w t ty e i ht hi g off n cap a m c news hl hnews h1 hr (fun j hj => (hc j hj).1) (fun j hj => (hc j hj).2)
    have hg := gby_setCells g news (off + n * i.size) w
    refine ⟨_, _, hrun, ⟨by rw [List.length_append, h0, hl, Nat.add_mul], g, off, cap, rfl, h2, Nat.lt_of_lt_of_le h3 hg.size, hr, h5, fun j hj => ⟨?_, ?_⟩, fun j u hu => ?_⟩, hg, .inl rfl⟩
    · by_cases hjn : n * i.size ≤ j ∧ j < n * i.size + news.length
      · have := World.cell?_setCells_in g news (off + n * i.size) w (fun j hj => (hc j hj).1) (j - n * i.size) (by omega)
        rw [show off + n * i.size + (j - n * i.size) = off + j by omega] at this
        rw [this]; rfl
      · rw [World.cell?_setCells_out g news (off + n * i.size) w ⟨g, off + j, none⟩ (fun _ _ => by show off + j < _ ∨ _ ≤ off + j; omega)]
        exact (h6 j hj).1
    · rw [World.frozen?_setCells]; exact (h6 j hj).2
    · by_cases hjx : j < xs.length
      · rw [List.getElem?_append_left hjx] at hu
        rw [World.cell?_setCells_out g news (off + n * i.size) w ⟨g, off + j, none⟩ (fun _ _ => .inl (by show off + j < _; omega))]
        exact h7 j u hu
      · rw [List.getElem?_append_right (by omega)] at hu
        have hjl : j - xs.length < news.length := (List.getElem?_eq_some_iff.1 hu).1
        have := World.cell?_setCells_in g news (off + n * i.size) w (fun j hj => (hc j hj).1) (j - xs.length) hjl
        rw [show off + n * i.size + (j - xs.length) = off + j by omega] at this
        rw [this, ← hu, List.getElem?_eq_getElem hjl]
  · obtain ⟨v', w', hrun, r1, r2⟩ := run_append_arg_grows (P := P) w t ty e i z size bytes ht hi hz hsize hby hzs hsz ⟨g, off, none⟩ n cap xs h0 (fun j u hu => by rw [Addr.add_lit]; exact h7 j u hu) a m c news hl hnews (by omega) h63 hbytes
    have hq := QRow.of_own r1 (by omega)
    refine ⟨v', w', hrun, ?_, r2.but _, .inr ?_⟩
    · obtain ⟨q0, g', off', cap', q1, q2, q3⟩ := hq
      exact ⟨q0, g', off', cap', q1, Nat.le_trans hbase q2, q3⟩
    · obtain ⟨b1, _⟩ := hq.form
      have hk : ∃ k, v'.ownBlock = some k := by
        obtain ⟨g', off', cap', e1, _⟩ := hq.form
        exact ⟨g', by rw [e1]; rfl⟩
      obtain ⟨k, hk⟩ := hk
      have := hq.lt k hk
      have hnew : k < w.heap.size + 1 := by
        have hs := r1.lt k hk
        have : w'.heap.size = w.heap.size + 1 := by
          have hr' := run_append_grow (P := P) w t ty e i z ht hi hz ⟨g, off, none⟩ n cap xs (by rw [hsize]; exact h0) (fun j u hu => by rw [Addr.add_lit]; exact h7 j u hu) a m c news (by rw [hsize]; exact hl) hnews (by omega) (by simp only [maxLen] at h63; omega) (growslice_fits (by omega) (by rw [hby]; exact hbytes))
          rw [hrun] at hr'
          injection hr' with _ hw
          rw [hw]; simp
        omega
      have : k = w.heap.size := by omega
      rw [hk, this]
theorem wpList_append_q {ops : Array Oper} {rest : List Oper} {o : Oper} {a : Act} {Q : Exit → Act → World → Prop} (hgd : o.guard = none) (s x : Operand) (t : TypeId)
    (ho : o.op = .call { callee := .builtin .append, args := #[s, x], argTypes := #[t, t] })
    (base : Nat) (e : TypeId) (i : TypeInfo) (z : Value) (size bytes : Nat) (ht : P.underlying t = some (.slice e)) (hi : P.info? e = some i) (hz : i.zero = some z)
    (hsize : i.size = size) (hby : i.bytes = bytes) (hzs : z.cells.size = size) (hsz : 0 < size)
    (v : Value) (n : Nat) (xs : List Value) (hs : a.eval s = v) (hq : QRow w base size v n xs)
    (ad : Addr) (m c : Nat) (news : List Value) (hx : a.eval x = .slice (some ad) m c) (hl : news.length = m * size) (hnews : ∀ j u, news[j]? = some u → w.cell? (ad.add j) = some u) (h1 : ∀ u ∈ news, u.oneCell' = true) (hm : 0 < m)
    (h63 : n + m ≤ maxLen) (hbytes : (n + m) * bytes ≤ 140737488355328) (hbase : base ≤ w.heap.size)
    (h : ∀ v' w', QRow w' base size v' (n + m) (xs ++ news) → w.grownBy w' v.ownBlock → (v'.ownBlock = v.ownBlock ∨ v'.ownBlock = some w.heap.size) → wpList P ops Q rest (a.put o.dst v') w') :
    wpList P ops Q (o :: rest) a w := by
  refine wpList_plain hgd fun K hK => ?_
  obtain ⟨v', w', hr, h2, h3, h4⟩ := run_append_q (P := P) base t o.type e i z size bytes ht hi hz hsize hby hzs hsz v n xs hq ad m c news hl hnews h1 hm h63 hbytes hbase
  unfold Oper.wp execOp
  simp only [ho, resolve, invoke, builtin, Sem.run_bind, Sem.run_pure, Result.andThen_ok, List.map_toArray, List.map_cons, List.map_nil, hs, hx, hr]
  exact hK _ _ (h v' w' h2 h3 h4)
end
/-- the pointer to a block, or nil -/
def ptrV (o : Option Nat) : Value := .pointer (o.map fun g => ⟨g, 0, none⟩)
def ptrI : Option Nat → Int
  | none => -1
  | some g => (g : Int)
theorem ptrI_inj {a b : Option Nat} (h : ptrI a = ptrI b) : a = b := by
  cases a <;> cases b <;> simp [ptrI] at h ⊢ <;> omega
/-- how a pointer to a block reads: by the block's number -/
def ptrElem (v : Value) : Option (DataW Unit × List MemPlace) := match v with
  | .pointer none => some (.lit (.int .i64 (-1)), [])
  | .pointer (some ⟨g, 0, none⟩) => some (.lit (.int .i64 (g : Int)), [])
  | _ => none
theorem ptrElem_mk (o : Option Nat) : ptrElem (ptrV o) = some (.lit (.int .i64 (ptrI o)), []) := by cases o <;> rfl
theorem ptrElem_inv (v : Value) (y : DataW Unit × List MemPlace) (h : ptrElem v = some y) : ∃ o : Option Nat, v = ptrV o ∧ y = (.lit (.int .i64 (ptrI o)), []) := by
  unfold ptrElem at h
  split at h
  · injection h with h; exact ⟨none, rfl, h.symm⟩
  · rename_i g; injection h with h; exact ⟨some g, rfl, h.symm⟩
  · cases h
/-- block b maps points to pointers: M; at most n were laid in -/
def TMap (w : World) (b n : Nat) (M : Int → Int → Option Nat) : Prop :=
  ∃ D : DataW Unit, w.ownsMap Try.prog 34 ptrElem b n D ∧ (∀ x y, W64 x → W64 y → Maps.has D (pkey x y) = (M x y).isSome ∧ D.atKey (pkey x y) (.lit (.int .i64 (-1))) = .lit (.int .i64 (ptrI (M x y)))) ∧
    ∀ kl, Maps.has D kl = true → ∃ x y, W64 x ∧ W64 y ∧ kl = pkey x y
section
variable {w w' : World} {b n : Nat} {M M' : Int → Int → Option Nat}
theorem TMap.made (w : World) : TMap (w.alloc (.map #[] 0)) w.heap.size 0 (fun _ _ => none) :=
  ⟨_, World.ownsMap_made _ _ _ _, fun x y _ _ => ⟨by simp [Maps.has], WideAt.atKey_none _ (fun p hp => by simp at hp)⟩, fun kl h => by simp [Maps.has] at h⟩
theorem TMap.lt (h : TMap w b n M) : b < w.heap.size := by
  obtain ⟨D, h, _⟩ := h
  exact h.lt
theorem TMap.block (h : TMap w b n M) (hb : w'.heap[b]? = w.heap[b]?) : TMap w' b n M := by
  obtain ⟨D, ⟨es, clock, hh, r⟩, h2⟩ := h
  exact ⟨D, ⟨es, clock, hb.trans hh, r⟩, h2⟩
theorem TMap.below (h : TMap w b n M) (hb : Below w.heap.size w w') : TMap w' b n M := h.block (hb.block b h.lt)
theorem TMap.kept {row : Option Nat} (h : TMap w b n M) (hg : w.grownBy w' row) (hne : some b ≠ row) : TMap w' b n M := h.block (hg.block b h.lt hne)
theorem TMap.say (h : TMap w b n M) (hS : ∀ x y, M x y = M' x y) : TMap w b n M' := by
  obtain rfl : M = M' := funext fun x => funext fun y => hS x y
  exact h
theorem TMap.put_ {D : DataW Unit} {x y : Int} {g : Nat} (hx : W64 x) (hy : W64 y) (hD : Maps.IsMap D) (hat : ∀ x y, W64 x → W64 y → Maps.has D (pkey x y) = (M x y).isSome ∧ D.atKey (pkey x y) (.lit (.int .i64 (-1))) = .lit (.int .i64 (ptrI (M x y))))
    (hk : ∀ kl, Maps.has D kl = true → ∃ x y, W64 x ∧ W64 y ∧ kl = pkey x y)
    (h1 : w'.ownsMap Try.prog 34 ptrElem b n (D.put (pkey x y) (.lit (.int .i64 (ptrI (some g)))))) : TMap w' b n (fun i j => if i = x ∧ j = y then some g else M i j) := by
  refine ⟨_, h1, fun i j hi hj => ?_, fun kl hkl => ?_⟩
  · by_cases hij : i = x ∧ j = y
    · obtain ⟨rfl, rfl⟩ := hij
      have hkl := pt_keyed.key (keyOf_pt hi hj)
      simp only [and_self, if_true]
      exact ⟨Maps.has_put_same hD hkl _, Maps.atKey_put_same hD hkl _ _⟩
    · have hne : pkey i j ≠ pkey x y := fun e => hij (pkey_inj hi hj hx hy e)
      simp only [if_neg hij]
      rw [Maps.has_put_other hne, Maps.atKey_put_other hne]
      exact hat i j hi hj
  · by_cases he : kl = pkey x y
    · exact ⟨x, y, hx, hy, he⟩
    · rw [Maps.has_put_other he] at hkl
      exact hk kl hkl
end
section
variable {ops : Array Oper} {rest : List Oper} {o : Oper} {a : Act} {Q : Exit → Act → World → Prop}
end
end Go.Proofs.Ytpnahobgmemdjaa
