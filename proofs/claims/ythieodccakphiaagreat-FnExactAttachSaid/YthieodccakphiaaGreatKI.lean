import Derived.Test.YthieodccakphiaaGreatD1
import Derived.Test.YthieodccakphiaaGreatN1
import Derived.Lib.LazyBuf
import Derived.Lib.SliceRun
import Derived.Deep.RegionLaw
import Derived.Shelf.RegionOpenPlain
import Derived.Test.YthieodccakphiaaGreatPlC
import Derived.Lib.Walk
import Derived.Lib.AppendZeros
import Derived.Lib.Overlaps
import Derived.Laws.Externs
import Derived.Laws.IdiomCopy
import Derived.Deep.AppendSrc
set_option linter.unusedSimpArgs false
set_option linter.unusedVariables false
/- Walks: one element struck out of a row by slices.Delete. -/






namespace Go.Proofs.YthieodccakphiaaGreat
open Go.RowKit Go.Shelf
attribute [local go_sem] BelowBy.cell BelowBy.cell_drew stillUpon givesUpon BelowBy.cell_drew2 BelowBy.cell_drew3

theorem setCells_grown (g : Nat) : ∀ (vs : List Value) (o : Nat) (w : World), w.grownBy (w.setCells g o vs) (some g)
  | [], _, _ => ⟨rfl, rfl, rfl, Nat.le_refl _, fun _ _ _ => rfl⟩
  | v :: r, o, w => by
    have ih := setCells_grown g r (o + 1) (w.setCell ⟨g, o, none⟩ v)
    refine ⟨ih.os, ih.tape, ih.output, Nat.le_trans (by simp) ih.size, fun k hk hne => (ih.block k (by simpa using hk) hne).trans (Below.heap_setCell _ _ _ _ (fun e => hne (by rw [e])))⟩
theorem grown_two {w w1 w2 : World} {r : Option Nat} (h : w.grownBy w1 r) (k : w1.grownBy w2 r) : w.grownBy w2 r :=
  ⟨k.os.trans h.os, k.tape.trans h.tape, k.output.trans h.output, Nat.le_trans h.size k.size, fun i hi hne => (k.block i (Nat.lt_of_lt_of_le hi h.size) hne).trans (h.block i hi hne)⟩
theorem grown_drew (w : World) (r : Option Nat) : w.grownBy w.drew r := grown_below (Below.drew (Below.refl _ _)) r
theorem rowIs_of_owns {w : World} {base g n cap size : Nat} {e : TypeId} {xs : List Value} (h : w.ownsRow base e size (.slice (some ⟨g, 0, none⟩) n cap) n xs) :
    ∃ f, w.rowIs g e (cap * size) f ∧ (∀ j u, xs[j]? = some u → f j = u) ∧ base ≤ g ∧ n ≤ cap ∧ cap ≤ maxLen ∧ xs.length = n * size := by
  rcases h.2 with ⟨h0, _⟩ | ⟨g', cap', cur, hv, hb, hh, hnc, hm, hs, ht⟩
  · cases h0
  · injection hv with a1 a2 a3
    injection a1 with a1
    injection a1 with a1 _ _
    subst a1 a3
    refine ⟨fun j => cur.getD j undef, ⟨cur, hh, hs, fun i hi => ?_⟩, fun j u hj => ?_, hb, hnc, hm, h.1⟩
    · have : i < cur.size := by omega
      simp [this]
    · have hjl := (List.getElem?_eq_some_iff.1 hj).1
      rw [h.1] at hjl
      rw [← ht, List.getElem?_take_of_lt hjl, Array.getElem?_toList] at hj
      simp [Array.getD_eq_getD_getElem?, hj]
theorem owns_of_rowIs {w : World} {base g m cap size : Nat} {e : TypeId} {f : Nat → Value} (h : w.rowIs g e (cap * size) f) (hb : base ≤ g) (hm : m ≤ cap) (hc : cap ≤ maxLen) :
    w.ownsRow base e size (.slice (some ⟨g, 0, none⟩) m cap) m ((List.range (m * size)).map f) := by
  obtain ⟨c, hh, hs, hf⟩ := h
  refine ⟨by simp, .inr ⟨g, cap, c, rfl, hb, hh, hm, hc, hs, ?_⟩⟩
  have hle : m * size ≤ cap * size := Nat.mul_le_mul_right _ hm
  apply List.ext_getElem?
  intro j
  by_cases hj : j < m * size
  · rw [List.getElem?_take_of_lt hj, Array.getElem?_toList, hf j (by omega)]
    simp [hj]
  · rw [List.getElem?_eq_none (by simp; omega), List.getElem?_eq_none (by simp; omega)]
/-- the cells behind: a tail moved to the left, then zeros -/
theorem erased_cells {f : Nat → Value} {xs zs : List Value} {a S N : Nat} (hx : ∀ j u, xs[j]? = some u → f j = u) (hl : xs.length = N) (ha : a + S ≤ N) :
    (List.range (N - S)).map (fun j => if N - S ≤ j ∧ j < N - S + zs.length then zs[j - (N - S)]?.getD default else if a ≤ j ∧ j < a + (xs.drop (a + S)).length then (xs.drop (a + S))[j - a]?.getD default else f j) = xs.take a ++ xs.drop (a + S) := by
  apply List.ext_getElem?
  intro j
  have h1 : (xs.take a).length = a := by simp; omega
  by_cases hj : j < N - S
  · rw [List.getElem?_map, List.getElem?_range hj]
    simp only [Option.map_some]
    rw [if_neg (by omega)]
    by_cases hja : j < a
    · rw [if_neg (by omega), List.getElem?_append_left (by omega), List.getElem?_take_of_lt hja]
      have := List.getElem?_eq_getElem (l := xs) (i := j) (by omega)
      rw [this, hx j _ this]
    · rw [if_pos (by simp; omega), List.getElem?_append_right (by omega), h1]
      have := List.getElem?_eq_getElem (l := xs.drop (a + S)) (i := j - a) (by simp; omega)
      rw [this]; rfl
  · rw [List.getElem?_eq_none (by simp; omega), List.getElem?_eq_none (by simp; omega)]
/-- what is left when element k is struck out -/
def DelAt (base g n cap k S : Nat) (T : TypeId) (xs : List Value) (w : World) (e : Ending) (w' : World) : Prop :=
  e = .returned (.slice (some ⟨g, 0, none⟩) (n - 1) cap) ∧ w'.ownsRow base T S (.slice (some ⟨g, 0, none⟩) (n - 1) cap) (n - 1) (xs.take (k * S) ++ xs.drop ((k + 1) * S)) ∧ w.grownBy w' (some g)
theorem delAt_of {base g n cap k S : Nat} {T : TypeId} {xs zs : List Value} {w : World} (h : w.ownsRow base T S (.slice (some ⟨g, 0, none⟩) n cap) n xs) (hk : k < n) (hz : zs.length = S) :
    ((w.drew.setCells g (k * S) (xs.drop ((k + 1) * S))).setCells g ((n - 1) * S) zs).ownsRow base T S (.slice (some ⟨g, 0, none⟩) (n - 1) cap) (n - 1) (xs.take (k * S) ++ xs.drop ((k + 1) * S)) ∧
      w.grownBy ((w.drew.setCells g (k * S) (xs.drop ((k + 1) * S))).setCells g ((n - 1) * S) zs) (some g) := by
  have hd : w.drew.ownsRow base T S (.slice (some ⟨g, 0, none⟩) n cap) n xs := h.kept (grown_drew w none) (Classical.em _)
  obtain ⟨f, hr, hx, hb, hnc, hm, hl⟩ := rowIs_of_owns hd
  have h1 := rowIs_setCells (xs.drop ((k + 1) * S)) (k * S) _ _ hr
  have h2 := rowIs_setCells zs ((n - 1) * S) _ _ h1
  have h3 := owns_of_rowIs (m := n - 1) h2 hb (by omega) hm
  have hmul : (k + 1) * S = k * S + S := Nat.succ_mul k S
  have hN : (n - 1) * S = n * S - S := by rw [Nat.sub_mul, Nat.one_mul]
  have hle : k * S + S ≤ n * S := by rw [← hmul]; exact Nat.mul_le_mul_right _ hk
  have hc := erased_cells (zs := zs) hx hl hle
  rw [hN, hmul] at h3
  rw [hc] at h3
  rw [hmul, hN]
  exact ⟨h3, grown_two (grown_drew w _) (grown_two (setCells_grown g _ _ _) (setCells_grown g _ _ _))⟩
theorem infoClump : (Tryz.prog.info? 137).map (fun i => (i.zero, i.size, i.bytes)) = some (some (.agg #[.int .i64 0, .int .i64 0, .int .i64 0]), 3, 24) := by kernel_rfl
theorem infoI64 : (Tryz.prog.info? 2).map (fun i => (i.zero, i.size, i.bytes)) = some (some (.int .i64 0), 1, 8) := by kernel_rfl
theorem infoI64S : (Tryz.prog.info? 103).map (fun i => (i.zero, i.size, i.bytes)) = some (some (.slice none 0 0), 1, 24) := by kernel_rfl
theorem zeros_len (z : Value) (n : Nat) : (Builtin.zeroCells z.cells n).toList.length = n * z.cells.size := by simp [size_zeroCells]
theorem zeros_one1 (z : Value) (hz : z.cells = #[z]) (h1 : z.oneCell' = true) (n : Nat) : ∀ u ∈ (Builtin.zeroCells z.cells n).toList, u.oneCell' = true := by
  intro u hu
  rw [hz] at hu
  simp only [Builtin.zeroCells, Array.toList_map, List.mem_map] at hu
  obtain ⟨i, _, rfl⟩ := hu
  have : i % 1 = 0 := by omega
  simp [Nat.mod_one, h1]
-- WALKS
set_option maxHeartbeats 4000000 in
set_option maxRecDepth 1000000 in
theorem DelC_any (base g n cap k : Nat) (xs : List Value) (w : World) (h : w.ownsRow base 137 3 (.slice (some ⟨g, 0, none⟩) n cap) n xs) (h1c : ∀ u ∈ xs, u.oneCell' = true) (hk : k < n) (j : Nat) (hj : j = k + 1) :
    Calls Tryz.prog 106 #[.slice (some ⟨g, 0, none⟩) n cap, .int .i64 (k : Int), .int .i64 (j : Int)] w (DelAt base g n cap k 3 137 xs w) := by
  obtain ⟨i0, hi, hz0, hz1, hz2⟩ := info_parts infoClump
  have hcm : n ≤ cap ∧ cap ≤ maxLen := by
    obtain ⟨f, _, _, _, h3, h4, _⟩ := rowIs_of_owns h
    exact ⟨h3, h4⟩
  have hn63 : cap ≤ 9223372036854775807 := by have := hcm.2; unfold maxLen at this; omega
  have hd : w.drew.ownsRow base 137 3 (.slice (some ⟨g, 0, none⟩) n cap) n xs := h.kept (grown_drew w none) (Classical.em _)
  have hcell := fun j (hj : j < n * 3) => hd.cellAt j hj
  have hfr := hd.frozenAt
  have hl : xs.length = n * 3 := h.1
  obtain ⟨news, hnews⟩ : ∃ news, news = xs.drop (j * 3) := ⟨_, rfl⟩
  have hlen : news.length = (n - j) * 3 := by rw [hnews]; simp; omega
  obtain ⟨A, hA, hsrc⟩ : ∃ A : Addr, (if cap = j then some (⟨g, 0, none⟩ : Addr) else some ⟨g, j * 3, none⟩) = some A ∧ Hid (∀ t u, news[t]? = some u → w.drew.cell? (A.add t) = some u) := by
    by_cases hc : cap = j
    · refine ⟨⟨g, 0, none⟩, by simp [hc], Lib.hid fun t u hu => ?_⟩
      have h0 : news.length = 0 := by rw [hlen]; have := hcm.1; omega
      rw [List.length_eq_zero_iff.1 h0] at hu
      simp at hu
    · refine ⟨⟨g, j * 3, none⟩, by simp [hc], Lib.hid fun t u hu => ?_⟩
      have ht := (List.getElem?_eq_some_iff.1 hu).1
      rw [hlen] at ht
      rw [Addr.add_lit, hcell _ (by omega)]
      rw [hnews, List.getElem?_drop] at hu
      (first | exact hu | simpa using hu)
  have s1 : Hid (news.length = (n - j) * 3) := Lib.hid hlen
  have s2 : Hid (∀ u ∈ news, u.oneCell' = true) := Lib.hid fun u hu => h1c u (List.mem_of_mem_drop (hnews ▸ hu))
  have s3 : Hid (∀ t, t < news.length → (w.drew.cell? ⟨g, 0 + k * 3 + t, none⟩).isSome = true ∧ w.drew.frozen? ⟨g, 0 + k * 3 + t, none⟩ = false) := Lib.hid fun t ht => by
    rw [hlen] at ht
    refine ⟨?_, hfr _⟩
    rw [hcell _ (by omega), List.getElem?_eq_getElem (by omega)]
    rfl
  obtain ⟨W1, hW1⟩ : ∃ W1, W1 = w.drew.setCells g (0 + k * 3) news := ⟨_, rfl⟩
  have hH1 : ∀ j, j < n * 3 → (W1.cell? ⟨g, j, none⟩).isSome = true ∧ W1.frozen? ⟨g, j, none⟩ = false := fun j hj => by
    obtain ⟨f, hr, _, _, hnc, _, _⟩ := rowIs_of_owns hd
    have hr1 := rowIs_setCells news (0 + k * 3) _ _ hr
    rw [← hW1] at hr1
    have hjc : j < cap * 3 := Nat.lt_of_lt_of_le hj (Nat.mul_le_mul_right _ hnc)
    rw [hr1.cell hjc]
    exact ⟨rfl, hr1.frozen _⟩
  obtain ⟨zs, hzs⟩ : ∃ zs, zs = (Builtin.zeroCells (Value.agg #[.int .i64 0, .int .i64 0, .int .i64 0]).cells 1).toList := ⟨_, rfl⟩
  have hzl : zs.length = 3 := by rw [hzs, zeros_len]; rfl
  have hcl : ∀ ty, (Builtin.clear_ #[132] ty #[.slice (some ⟨g, (n - 1) * 3, none⟩) (n - (n - 1)) (cap - (n - 1))]).run Tryz.prog W1 = .ok (.tuple #[]) (W1.setCells g ((n - 1) * 3) zs) := fun ty => by
    rw [hzs, show n - (n - 1) = 1 by omega]
    have := run_clear_rows W1 _ _ ty (Value.agg #[.int .i64 0, .int .i64 0, .int .i64 0]) (P := Tryz.prog) Tryz.underlying132 (fun w => rfl) g ((n - 1) * 3) 1 (cap - (n - 1)) (by decide) (fun j hj => (hH1 _ (by have : j < 1 * 3 := hj; omega)).1) (fun j hj => (hH1 _ (by have : j < 1 * 3 := hj; omega)).2) (zero3 1)
    simpa using this
  have hW : Hid (W1 = w.drew.setCells g (0 + k * 3) news) := Lib.hid hW1
  have hres := Lib.hid (delAt_of (zs := zs) h hk hzl)
  rw [← hj] at hres
  have hnewsH := Lib.hid hnews
  have hic : k ≤ cap := by have := hcm.1; omega
  have hjc : j ≤ cap := by have := hcm.1; omega
  have hjn : j ≤ n := by omega
  have hnc := hcm.1
  have hn1 : 1 ≤ n := by omega
  have hkj : ¬ (k : Int) = (j : Int) := by omega
  have hkj2 : k ≤ j := by omega
  have hkj3 : k + (n - j) = n - 1 := by omega
  have hjH := Lib.hid hj
  have mixed : Tryz.prog.follows Departure.mixedOrders = true := by kernel_rfl
  clear hW1 hH1 h hd hcell hfr hl hnews hlen hcm h1c hzs hj
  go_enter Tryz.func106, Tryz.ntmps106
  go_wp2_with fail
  go_region_law_o (refine step_append_room rfl (.tmp 22) (.tmp 25) 132 rfl 137 i0 3 Tryz.underlying132 hi hz1 g 0 k cap (by simp [Act.eval, Act.put]) A (n - j) (cap - j) news (by simp [Act.eval, Act.put]) s1.out hsrc.out s2.out (by omega) s3.out ?_; rw [← hW.out])
  go_wp2
  go_ret
  refine ⟨rfl, ?_⟩
  have := hres.out
  rw [← hnewsH.out] at this
  rw [← hjH.out, ← hnewsH.out, hW.out]
  simpa using this
theorem DelC_at {base g n cap k : Nat} {kI jI : Int} {xs : List Value} {w : World} (h : w.ownsRow base 137 3 (.slice (some ⟨g, 0, none⟩) n cap) n xs) (h1c : ∀ u ∈ xs, u.oneCell' = true) (hk : k < n) (h1 : kI = k) (h2 : jI = k + 1) :
    Calls Tryz.prog 106 #[.slice (some ⟨g, 0, none⟩) n cap, .int .i64 kI, .int .i64 jI] w (DelAt base g n cap k 3 137 xs w) := by
  have := DelC_any base g n cap k xs w h h1c hk (k + 1) rfl
  rw [h1, h2]
  simpa using this
set_option maxHeartbeats 4000000 in
set_option maxRecDepth 1000000 in
theorem DelR_any (base g n cap k : Nat) (xs : List Value) (w : World) (h : w.ownsRow base 103 1 (.slice (some ⟨g, 0, none⟩) n cap) n xs) (h1c : ∀ u ∈ xs, u.oneCell' = true) (hk : k < n) (j : Nat) (hj : j = k + 1) :
    Calls Tryz.prog 107 #[.slice (some ⟨g, 0, none⟩) n cap, .int .i64 (k : Int), .int .i64 (j : Int)] w (DelAt base g n cap k 1 103 xs w) := by
  obtain ⟨i0, hi, hz0, hz1, hz2⟩ := info_parts infoI64S
  have hcm : n ≤ cap ∧ cap ≤ maxLen := by
    obtain ⟨f, _, _, _, h3, h4, _⟩ := rowIs_of_owns h
    exact ⟨h3, h4⟩
  have hn63 : cap ≤ 9223372036854775807 := by have := hcm.2; unfold maxLen at this; omega
  have hd : w.drew.ownsRow base 103 1 (.slice (some ⟨g, 0, none⟩) n cap) n xs := h.kept (grown_drew w none) (Classical.em _)
  have hcell := fun j (hj : j < n * 1) => hd.cellAt j hj
  have hfr := hd.frozenAt
  have hl : xs.length = n * 1 := h.1
  obtain ⟨news, hnews⟩ : ∃ news, news = xs.drop (j * 1) := ⟨_, rfl⟩
  have hlen : news.length = (n - j) * 1 := by rw [hnews]; simp; omega
  obtain ⟨A, hA, hsrc⟩ : ∃ A : Addr, (if cap = j then some (⟨g, 0, none⟩ : Addr) else some ⟨g, j, none⟩) = some A ∧ Hid (∀ t u, news[t]? = some u → w.drew.cell? (A.add t) = some u) := by
    by_cases hc : cap = j
    · refine ⟨⟨g, 0, none⟩, by simp [hc], Lib.hid fun t u hu => ?_⟩
      have h0 : news.length = 0 := by rw [hlen]; have := hcm.1; omega
      rw [List.length_eq_zero_iff.1 h0] at hu
      simp at hu
    · refine ⟨⟨g, j, none⟩, by simp [hc], Lib.hid fun t u hu => ?_⟩
      have ht := (List.getElem?_eq_some_iff.1 hu).1
      rw [hlen] at ht
      rw [Addr.add_lit, hcell _ (by omega)]
      rw [hnews, List.getElem?_drop] at hu
      (first | exact hu | simpa using hu)
  have s1 : Hid (news.length = (n - j) * 1) := Lib.hid hlen
  have s2 : Hid (∀ u ∈ news, u.oneCell' = true) := Lib.hid fun u hu => h1c u (List.mem_of_mem_drop (hnews ▸ hu))
  have s3 : Hid (∀ t, t < news.length → (w.drew.cell? ⟨g, 0 + k * 1 + t, none⟩).isSome = true ∧ w.drew.frozen? ⟨g, 0 + k * 1 + t, none⟩ = false) := Lib.hid fun t ht => by
    rw [hlen] at ht
    refine ⟨?_, hfr _⟩
    rw [hcell _ (by omega), List.getElem?_eq_getElem (by omega)]
    rfl
  obtain ⟨W1, hW1⟩ : ∃ W1, W1 = w.drew.setCells g (0 + k * 1) news := ⟨_, rfl⟩
  have hH1 : ∀ j, j < n * 1 → (W1.cell? ⟨g, j, none⟩).isSome = true ∧ W1.frozen? ⟨g, j, none⟩ = false := fun j hj => by
    obtain ⟨f, hr, _, _, hnc, _, _⟩ := rowIs_of_owns hd
    have hr1 := rowIs_setCells news (0 + k * 1) _ _ hr
    rw [← hW1] at hr1
    have hjc : j < cap * 1 := Nat.lt_of_lt_of_le hj (Nat.mul_le_mul_right _ hnc)
    rw [hr1.cell hjc]
    exact ⟨rfl, hr1.frozen _⟩
  obtain ⟨zs, hzs⟩ : ∃ zs, zs = (Builtin.zeroCells (Value.slice none 0 0).cells 1).toList := ⟨_, rfl⟩
  have hzl : zs.length = 1 := by rw [hzs, zeros_len]; rfl
  have hcl : ∀ ty, (Builtin.clear_ #[133] ty #[.slice (some ⟨g, (n - 1), none⟩) (n - (n - 1)) (cap - (n - 1))]).run Tryz.prog W1 = .ok (.tuple #[]) (W1.setCells g ((n - 1) * 1) zs) := fun ty => by
    rw [hzs, show n - (n - 1) = 1 by omega]
    have := run_clear_rows W1 _ _ ty (Value.slice none 0 0) (P := Tryz.prog) Tryz.underlying133 (fun w => rfl) g ((n - 1) * 1) 1 (cap - (n - 1)) (by decide) (fun j hj => (hH1 _ (by have : j < 1 * 1 := hj; omega)).1) (fun j hj => (hH1 _ (by have : j < 1 * 1 := hj; omega)).2) (zeros_one1 _ rfl rfl 1)
    simpa using this
  have hW : Hid (W1 = w.drew.setCells g (0 + k * 1) news) := Lib.hid hW1
  have hres := Lib.hid (delAt_of (zs := zs) h hk hzl)
  rw [← hj] at hres
  have hnewsH := Lib.hid hnews
  have hic : k ≤ cap := by have := hcm.1; omega
  have hjc : j ≤ cap := by have := hcm.1; omega
  have hjn : j ≤ n := by omega
  have hnc := hcm.1
  have hn1 : 1 ≤ n := by omega
  have hkj : ¬ (k : Int) = (j : Int) := by omega
  have hkj2 : k ≤ j := by omega
  have hkj3 : k + (n - j) = n - 1 := by omega
  have hjH := Lib.hid hj
  have mixed : Tryz.prog.follows Departure.mixedOrders = true := by kernel_rfl
  clear hW1 hH1 h hd hcell hfr hl hnews hlen hcm h1c hzs hj
  go_enter Tryz.func107, Tryz.ntmps107
  go_wp2_with fail
  go_region_law_o (refine step_append_room rfl (.tmp 22) (.tmp 25) 133 rfl 103 i0 1 Tryz.underlying133 hi hz1 g 0 k cap (by simp [Act.eval, Act.put]) A (n - j) (cap - j) news (by simp [Act.eval, Act.put]) s1.out hsrc.out s2.out (by omega) s3.out ?_; rw [← hW.out])
  go_wp2
  go_ret
  refine ⟨rfl, ?_⟩
  have := hres.out
  rw [← hnewsH.out] at this
  rw [← hjH.out, ← hnewsH.out, hW.out]
  simpa using this
theorem DelR_at {base g n cap k : Nat} {kI jI : Int} {xs : List Value} {w : World} (h : w.ownsRow base 103 1 (.slice (some ⟨g, 0, none⟩) n cap) n xs) (h1c : ∀ u ∈ xs, u.oneCell' = true) (hk : k < n) (h1 : kI = k) (h2 : jI = k + 1) :
    Calls Tryz.prog 107 #[.slice (some ⟨g, 0, none⟩) n cap, .int .i64 kI, .int .i64 jI] w (DelAt base g n cap k 1 103 xs w) := by
  have := DelR_any base g n cap k xs w h h1c hk (k + 1) rfl
  rw [h1, h2]
  simpa using this
set_option maxHeartbeats 4000000 in
set_option maxRecDepth 1000000 in
theorem DelN_any (base g n cap k : Nat) (xs : List Value) (w : World) (h : w.ownsRow base 2 1 (.slice (some ⟨g, 0, none⟩) n cap) n xs) (h1c : ∀ u ∈ xs, u.oneCell' = true) (hk : k < n) (j : Nat) (hj : j = k + 1) :
    Calls Tryz.prog 108 #[.slice (some ⟨g, 0, none⟩) n cap, .int .i64 (k : Int), .int .i64 (j : Int)] w (DelAt base g n cap k 1 2 xs w) := by
  obtain ⟨i0, hi, hz0, hz1, hz2⟩ := info_parts infoI64
  have hcm : n ≤ cap ∧ cap ≤ maxLen := by
    obtain ⟨f, _, _, _, h3, h4, _⟩ := rowIs_of_owns h
    exact ⟨h3, h4⟩
  have hn63 : cap ≤ 9223372036854775807 := by have := hcm.2; unfold maxLen at this; omega
  have hd : w.drew.ownsRow base 2 1 (.slice (some ⟨g, 0, none⟩) n cap) n xs := h.kept (grown_drew w none) (Classical.em _)
  have hcell := fun j (hj : j < n * 1) => hd.cellAt j hj
  have hfr := hd.frozenAt
  have hl : xs.length = n * 1 := h.1
  obtain ⟨news, hnews⟩ : ∃ news, news = xs.drop (j * 1) := ⟨_, rfl⟩
  have hlen : news.length = (n - j) * 1 := by rw [hnews]; simp; omega
  obtain ⟨A, hA, hsrc⟩ : ∃ A : Addr, (if cap = j then some (⟨g, 0, none⟩ : Addr) else some ⟨g, j, none⟩) = some A ∧ Hid (∀ t u, news[t]? = some u → w.drew.cell? (A.add t) = some u) := by
    by_cases hc : cap = j
    · refine ⟨⟨g, 0, none⟩, by simp [hc], Lib.hid fun t u hu => ?_⟩
      have h0 : news.length = 0 := by rw [hlen]; have := hcm.1; omega
      rw [List.length_eq_zero_iff.1 h0] at hu
      simp at hu
    · refine ⟨⟨g, j, none⟩, by simp [hc], Lib.hid fun t u hu => ?_⟩
      have ht := (List.getElem?_eq_some_iff.1 hu).1
      rw [hlen] at ht
      rw [Addr.add_lit, hcell _ (by omega)]
      rw [hnews, List.getElem?_drop] at hu
      (first | exact hu | simpa using hu)
  have s1 : Hid (news.length = (n - j) * 1) := Lib.hid hlen
  have s2 : Hid (∀ u ∈ news, u.oneCell' = true) := Lib.hid fun u hu => h1c u (List.mem_of_mem_drop (hnews ▸ hu))
  have s3 : Hid (∀ t, t < news.length → (w.drew.cell? ⟨g, 0 + k * 1 + t, none⟩).isSome = true ∧ w.drew.frozen? ⟨g, 0 + k * 1 + t, none⟩ = false) := Lib.hid fun t ht => by
    rw [hlen] at ht
    refine ⟨?_, hfr _⟩
    rw [hcell _ (by omega), List.getElem?_eq_getElem (by omega)]
    rfl
  obtain ⟨W1, hW1⟩ : ∃ W1, W1 = w.drew.setCells g (0 + k * 1) news := ⟨_, rfl⟩
  have hH1 : ∀ j, j < n * 1 → (W1.cell? ⟨g, j, none⟩).isSome = true ∧ W1.frozen? ⟨g, j, none⟩ = false := fun j hj => by
    obtain ⟨f, hr, _, _, hnc, _, _⟩ := rowIs_of_owns hd
    have hr1 := rowIs_setCells news (0 + k * 1) _ _ hr
    rw [← hW1] at hr1
    have hjc : j < cap * 1 := Nat.lt_of_lt_of_le hj (Nat.mul_le_mul_right _ hnc)
    rw [hr1.cell hjc]
    exact ⟨rfl, hr1.frozen _⟩
  obtain ⟨zs, hzs⟩ : ∃ zs, zs = (Builtin.zeroCells (Value.int .i64 0).cells 1).toList := ⟨_, rfl⟩
  have hzl : zs.length = 1 := by rw [hzs, zeros_len]; rfl
  have hcl : ∀ ty, (Builtin.clear_ #[103] ty #[.slice (some ⟨g, (n - 1), none⟩) (n - (n - 1)) (cap - (n - 1))]).run Tryz.prog W1 = .ok (.tuple #[]) (W1.setCells g ((n - 1) * 1) zs) := fun ty => by
    rw [hzs, show n - (n - 1) = 1 by omega]
    have := run_clear_rows W1 _ _ ty (Value.int .i64 0) (P := Tryz.prog) Tryz.underlying103 (fun w => rfl) g ((n - 1) * 1) 1 (cap - (n - 1)) (by decide) (fun j hj => (hH1 _ (by have : j < 1 * 1 := hj; omega)).1) (fun j hj => (hH1 _ (by have : j < 1 * 1 := hj; omega)).2) (zeros_one1 _ rfl rfl 1)
    simpa using this
  have hW : Hid (W1 = w.drew.setCells g (0 + k * 1) news) := Lib.hid hW1
  have hres := Lib.hid (delAt_of (zs := zs) h hk hzl)
  rw [← hj] at hres
  have hnewsH := Lib.hid hnews
  have hic : k ≤ cap := by have := hcm.1; omega
  have hjc : j ≤ cap := by have := hcm.1; omega
  have hjn : j ≤ n := by omega
  have hnc := hcm.1
  have hn1 : 1 ≤ n := by omega
  have hkj : ¬ (k : Int) = (j : Int) := by omega
  have hkj2 : k ≤ j := by omega
  have hkj3 : k + (n - j) = n - 1 := by omega
  have hjH := Lib.hid hj
  have mixed : Tryz.prog.follows Departure.mixedOrders = true := by kernel_rfl
  clear hW1 hH1 h hd hcell hfr hl hnews hlen hcm h1c hzs hj
  go_enter Tryz.func108, Tryz.ntmps108
  go_wp2_with fail
  go_region_law_o (refine step_append_room rfl (.tmp 22) (.tmp 25) 103 rfl 2 i0 1 Tryz.underlying103 hi hz1 g 0 k cap (by simp [Act.eval, Act.put]) A (n - j) (cap - j) news (by simp [Act.eval, Act.put]) s1.out hsrc.out s2.out (by omega) s3.out ?_; rw [← hW.out])
  go_wp2
  go_ret
  refine ⟨rfl, ?_⟩
  have := hres.out
  rw [← hnewsH.out] at this
  rw [← hjH.out, ← hnewsH.out, hW.out]
  simpa using this
theorem DelN_at {base g n cap k : Nat} {kI jI : Int} {xs : List Value} {w : World} (h : w.ownsRow base 2 1 (.slice (some ⟨g, 0, none⟩) n cap) n xs) (h1c : ∀ u ∈ xs, u.oneCell' = true) (hk : k < n) (h1 : kI = k) (h2 : jI = k + 1) :
    Calls Tryz.prog 108 #[.slice (some ⟨g, 0, none⟩) n cap, .int .i64 kI, .int .i64 jI] w (DelAt base g n cap k 1 2 xs w) := by
  have := DelN_any base g n cap k xs w h h1c hk (k + 1) rfl
  rw [h1, h2]
  simpa using this
end Go.Proofs.YthieodccakphiaaGreat
/- Walks: slices.Insert of one placed tile. -/








namespace Go.Proofs.YthieodccakphiaaGreat
open Go.RowKit Go.Shelf
attribute [local go_sem] BelowBy.cell BelowBy.cell_drew stillUpon givesUpon BelowBy.cell_drew2 BelowBy.cell_drew3

section
variable {P : Program}
/-- copy over cells of whatever size -/
theorem run_copy_cellsN (w : World) (dT sT ty elem : TypeId) (size b o dLen dCap : Nat) (a : Addr) (sLen sCap m : Nat) (cs : List Value)
    (hu : P.underlying dT = some (.slice elem)) (hs : (P.info? elem).map (·.size) = some size) (hm : m = Nat.min sLen dLen) (hn : cs.length = m * size)
    (hsrc : ∀ j v, cs[j]? = some v → w.cell? (a.add j) = some v) (hc : ∀ j, j < cs.length → (w.cell? ⟨b, o + j, none⟩).isSome = true) (hf : ∀ j, j < cs.length → w.frozen? ⟨b, o + j, none⟩ = false) (h1 : ∀ v ∈ cs, v.oneCell' = true) :
    (Builtin.copy_ #[dT, sT] ty #[.slice (some ⟨b, o, none⟩) dLen dCap, .slice (some a) sLen sCap]).run P w = .ok (goInt m) (w.setCells b o cs) := by
  have hl := run_loadCells_list (P := P) w a cs hsrc
  have hst := run_storeCells_cells (P := P) b o cs 0 w (by simpa using hc) (by simpa using hf) h1
  cases hq : P.info? elem with
  | none => simp [hq] at hs
  | some i =>
    have hi : i.size = size := by simpa [hq] using hs
    rw [hn] at hl
    simp [Builtin.copy_, run_underlying hu, Builtin.lenOf, Builtin.firstCells, sizeOf, typeInfo, hq, hi, ← hm, hl, hst]
theorem wp_copy_runA (w : World) {o : Oper} {a : Act} {K : Act → World → Prop} {Q : Exit → Act → World → Prop} (d s : Operand) (t t' : TypeId)
    (ho : o.op = .call { callee := .builtin .copy, args := #[d, s], argTypes := #[t, t'] }) (v u : Value) (hd : a.eval d = v) (hs : a.eval s = u) {v' : Value} {w' : World}
    (hr : (Builtin.copy_ #[t, t'] o.type #[v, u]).run P w = .ok v' w') (h : K (a.put o.dst v') w') : o.wp P a w K Q := by
  unfold Oper.wp execOp
  simp only [ho, resolve, invoke, builtin, Sem.run_bind, Sem.run_pure, Result.andThen_ok, List.map_toArray, List.map_cons, List.map_nil, hd, hs, hr]
  exact h
theorem wpList_copy_runA (w : World) {ops : Array Oper} {rest : List Oper} {o : Oper} {a : Act} {Q : Exit → Act → World → Prop} (hgd : o.guard = none) (d s : Operand) (t t' : TypeId)
    (ho : o.op = .call { callee := .builtin .copy, args := #[d, s], argTypes := #[t, t'] }) (v u : Value) (hd : a.eval d = v) (hs : a.eval s = u) {v' : Value} {w' : World}
    (hr : (Builtin.copy_ #[t, t'] o.type #[v, u]).run P w = .ok v' w') (h : wpList P ops Q rest (a.put o.dst v') w') : wpList P ops Q (o :: rest) a w :=
  wpList_plain hgd fun _ hK => wp_copy_runA w d s t t' ho v u hd hs hr (hK _ _ h)
theorem step_copy_runA {ops : Array Oper} {o : Oper} {a : Act} {w : World} {K : Act → World → Prop} {Q : Exit → Act → World → Prop} {E : Prop}
    (hg : o.guard = none) (d x : Operand) (dT sT : TypeId) (hop : o.op = Op.call { callee := Callee.builtin Builtin.copy, args := #[d, x], argTypes := #[dT, sT] })
    (v u : Value) (hd : a.eval d = v) (hx : a.eval x = u) {v' : Value} {w' : World} (hr : (Builtin.copy_ #[dT, sT] o.type #[v, u]).run P w = .ok v' w') (hK : K (a.put o.dst v') w') :
    if Region.wanted o (yielded ops a.tmps) = true then Oper.wp P o a w K Q else E := by
  have hw : Region.wanted o (yielded ops a.tmps) = true := by simp [Region.wanted, hg]
  rw [if_pos hw]
  unfold Oper.wp
  simp [execOp, hop, resolve, invoke, builtin, hd, hx, hr, Result.andThen]
  exact hK
/-- an append of zeros that does not fit: a new row of the elements and zeros -/
theorem run_append_grow_zerosA (w : World) (t tn ty e : TypeId) (i : TypeInfo) (z : Value) (k kn : IntKind) (ht : P.underlying t = some (.slice e)) (htn : P.underlying tn = some (.int kn)) (hi : P.info? e = some i) (hz : i.zero = some z)
    (base : Option Addr) (sLen sCap : Nat) (olds : List Value) (hold : (Builtin.firstCells i.size sLen (.slice base sLen sCap)).run P w.drew = .ok olds.toArray w.drew)
    (n : Nat) (h0 : 0 < n) (hs : 0 < i.size) (hg : sCap < sLen + n) (h63 : ((sLen + n : Nat) : Int) ≤ 9223372036854775807) (h48 : n * i.bytes ≤ 281474976710656) (hfit : Builtin.nextslicecap (sLen + n) sCap * i.bytes ≤ 281474976710656) :
    (Builtin.append_ #[t, tn] ty #[.slice base sLen sCap, .int k n]).run P w =
      .ok (.slice (some ⟨w.heap.size, 0, none⟩) (sLen + n) (grownCap w (sLen + n) sCap e)) (w.drew.alloc (.cells (olds.toArray ++ Builtin.zeroCells z.cells n ++ Builtin.zeroCells z.cells (grownCap w (sLen + n) sCap e - (sLen + n))) e)) := by
  have hn : n ≠ 0 := by omega
  have hnn : ¬ (sLen + n ≤ sCap) := by omega
  have hw : IntKind.i64.wrap (n : Int) = n := by rw [IntKind.wrap_i64]; omega
  have h63' : ¬ (9223372036854775807 < ((sLen : Int) + (n : Int))) := by omega
  have h63'' : ¬ (9223372036854775807 < (n : Int)) := by omega
  have h48' : ¬ (281474976710656 < Builtin.nextslicecap (sLen + n) sCap * i.bytes) := by omega
  have h48i : ¬ (281474976710656 < (n : Int) * (i.bytes : Int)) := by
    rw [← Int.natCast_mul]
    omega
  have hneg : ¬ ((n : Int) < 0) := by omega
  have hns : ¬ (n * i.size = 0) := Nat.mul_ne_zero hn (by omega)
  simp [Builtin.append_, run_underlying ht, run_underlying htn, sizeOf, typeInfo, zeroValue, hi, hz, asInt, asIntOf, hw, hn, hnn, hneg, hns, h63', h63'', h48', h48i, Question.forced, hold, newRow, grownCap]
end
/-- one tile put in at place i -/
def insL (L : List Pl) (i : Nat) (e : Pl) : List Pl := L.take i ++ e :: L.drop i
theorem plCells_app (l m : List Pl) : plCells (l ++ m) = plCells l ++ plCells m := by
  induction l with
  | nil => rfl
  | cons a l ih => simp [plCells, ih]
theorem plCells_take (l : List Pl) (i : Nat) : plCells (l.take i) = (plCells l).take (i * 3) := by
  induction l generalizing i with
  | nil => simp [plCells]
  | cons a l ih =>
    cases i with
    | zero => simp [plCells]
    | succ i => rw [show (i + 1) * 3 = i * 3 + 3 by omega]; simp [plCells, ih]
theorem plCells_drop (l : List Pl) (i : Nat) : plCells (l.drop i) = (plCells l).drop (i * 3) := by
  induction l generalizing i with
  | nil => simp [plCells]
  | cons a l ih =>
    cases i with
    | zero => simp [plCells]
    | succ i => rw [show (i + 1) * 3 = i * 3 + 3 by omega]; simp [plCells, ih]
theorem insL_cells (L : List Pl) (i : Nat) (e : Pl) : plCells (insL L i e) = (plCells L).take (i * 3) ++ ([.int .i64 e.x, .int .i64 e.y, .int .i64 e.t] ++ (plCells L).drop (i * 3)) := by
  unfold insL
  rw [plCells_app, plCells, plCells_take, plCells_drop]; rfl
theorem insL_len {L : List Pl} {i : Nat} {e : Pl} : (insL L i e).length = L.length + 1 := by
  unfold insL
  rw [List.length_append, List.length_cons, List.length_take, List.length_drop]
  omega
theorem insL_end (L : List Pl) (e : Pl) : insL L L.length e = L ++ [e] := by
  unfold insL; simp
def InsRes (base : Nat) (w : World) (v : Value) (Z : List Pl) (e : Ending) (w' : World) : Prop :=
  ∃ v', e = .returned v' ∧ w'.ownsRow base 108 3 v' Z.length (plCells Z) ∧ w.grownBy w' v.ownBlock
set_option maxHeartbeats 4000000 in
set_option maxRecDepth 100000 in
/-- at the end -/
theorem InsertP_end (base vb : Nat) (v : Value) (L : List Pl) (e : Pl) (w : World) (hrow : w.ownsRow base 108 3 v L.length (plCells L)) (hn : L.length ≤ 100000) (hb : base ≤ w.heap.size)
    (hv : w.heap[vb]? = some (Obj.cells #[.int .i64 e.x, .int .i64 e.y, .int .i64 e.t] 108)) :
    Calls Tryz.prog 83 #[v, .int .i64 (L.length : Int), .slice (some ⟨vb, 0, none⟩) 1 1] w (InsRes base w v (insL L L.length e)) := by
  obtain ⟨i0, hi, hz0, hz1, hz2⟩ := info_parts infoPl
  obtain ⟨A, cap, rfl⟩ := ownsRow_form hrow
  have hns : ∀ j u, [Value.int .i64 e.x, .int .i64 e.y, .int .i64 e.t][j]? = some u → w.cell? ((⟨vb, 0, none⟩ : Addr).add j) = some u := fun j u hj => by
    match j, hj with
    | 0, hj => simp at hj; subst hj; simp [World.cell?, Addr.add, hv]
    | 1, hj => simp at hj; subst hj; simp [World.cell?, Addr.add, hv]
    | 2, hj => simp at hj; subst hj; simp [World.cell?, Addr.add, hv]
    | j + 3, hj => simp at hj
  have hnsH := Lib.hid hns
  have hrowH := Lib.hid hrow
  have hcm : L.length ≤ cap := by
    rcases hrow.2 with ⟨h0, h1⟩ | ⟨g, c, cur, h1, _, _, h3, _⟩
    · omega
    · injection h1 with _ _ h4; omega
  have hgo : Hid (insL L L.length e = L ++ [e]) := Lib.hid (insL_end L e)
  obtain ⟨n, hnn⟩ : ∃ n, L.length = n := ⟨_, rfl⟩
  have hnH := Lib.hid hnn
  have hob : Hid (∀ c, (Value.slice A n c).ownBlock = (Value.slice A n cap).ownBlock) := Lib.hid fun c => by cases A <;> rfl
  rw [hnn] at hn hrowH hcm hgo
  rw [hnn]
  clear hns hv hnn hrow
  go_enter Tryz.func83, Tryz.ntmps83
  go_wp2_with (at_builtin; go_loud (refine wpList_append_own _ rfl _ _ 38 rfl base 108 i0 (.agg #[.int .i64 0, .int .i64 0, .int .i64 0]) 3 24 Tryz.underlying38 hi hz0 hz1 hz2 rfl (by decide) _ n (plCells L) rfl hrowH.out ⟨vb, 0, none⟩ 1 1 [.int .i64 e.x, .int .i64 e.y, .int .i64 e.t] rfl rfl hnsH.out (fun x hx => by simp at hx; rcases hx with rfl | rfl | rfl <;> rfl) (by unfold maxLen; omega) (by omega) hb ?_); intro v' w3 hown' hgrow _)
  all_goals
    go_ret
    rw [hgo.out]
    refine ⟨v', rfl, ?_, ?_⟩
    · rw [plCells_snoc, List.length_append, hnH.out]
      exact hown'
    · rw [hob.out]
      exact hgrow
set_option maxHeartbeats 4000000 in
set_option maxRecDepth 1000000 in
/-- in the midst, with room: in place -/
theorem InsertP_shift (base g cap i vb : Nat) (L : List Pl) (e : Pl) (w : World) (hrow : w.ownsRow base 108 3 (.slice (some ⟨g, 0, none⟩) L.length cap) L.length (plCells L)) (hn : L.length ≤ 100000) (hi : i < L.length) (hroom : L.length + 1 ≤ cap)
    (hv : w.heap[vb]? = some (Obj.cells #[.int .i64 e.x, .int .i64 e.y, .int .i64 e.t] 108)) (hne : vb ≠ g) :
    Calls Tryz.prog 83 #[.slice (some ⟨g, 0, none⟩) L.length cap, .int .i64 (i : Int), .slice (some ⟨vb, 0, none⟩) 1 1] w (InsRes base w (.slice (some ⟨g, 0, none⟩) L.length cap) (insL L i e)) := by
  obtain ⟨i0, hi0, hz0, hz1, hz2⟩ := info_parts infoPl
  obtain ⟨f, hr, hfx, hbg, hnc, hcm, hxl⟩ := rowIs_of_owns hrow
  have hc63 : cap ≤ 9223372036854775807 := by unfold maxLen at hcm; omega
  obtain ⟨n, hnn⟩ : ∃ n, L.length = n := ⟨_, rfl⟩
  have hrow' := hrow
  rw [hnn] at hn hi hroom hnc hxl hrow'
  rw [hnn]
  have hgh : ∃ c0, w.heap[g]? = some (Obj.cells c0 108) ∧ c0.size = cap * 3 := by
    obtain ⟨c0, h1, h2, _⟩ := hr
    exact ⟨c0, h1, h2⟩
  obtain ⟨c0, hg0, hgs⟩ := hgh
  have hsz : (Tryz.prog.info? 108).map (·.size) = some 3 := by rw [hi0]; simp [hz1]
  have hov : ∀ lb cb, (callFunc 119 #[.slice (some ⟨vb, 0, none⟩) 1 1, .slice (some ⟨g, (i + 1) * 3, none⟩) lb cb]).run Tryz.prog w = .ok (.value (.bool false)) w := fun lb cb => by
    rw [run_callFunc_extern (P := Tryz.prog) Tryz.func119 (by kernel_rfl) (by kernel_rfl) (by kernel_rfl) (e := Extern.SlicesOverlaps.overlaps #[38, 38] #[4]) (by kernel_rfl),
      Lib.run_overlaps_apart w 38 4 108 Tryz.underlying38 3 (fun w => by simp [sizeOf, typeInfo, hi0, hz1]) ⟨vb, 0, none⟩ ⟨g, (i + 1) * 3, none⟩ 1 1 lb cb hne 108 108 3 (cap * 3) (by simp [World.shape?, hv]) (by simp [World.shape?, hg0, hgs]) (by omega) (by simp [World.frozen?, hv]) (by simp [World.frozen?, hv])]
    rfl
  obtain ⟨cs, hcs⟩ : ∃ cs, plCells L = cs := ⟨_, rfl⟩
  obtain ⟨vs, hvs⟩ : ∃ vs, vs = [Value.int .i64 e.x, .int .i64 e.y, .int .i64 e.t] := ⟨_, rfl⟩
  have h1c : ∀ u ∈ cs, u.oneCell' = true := by rw [← hcs]; exact plCells_one L
  have h1v : ∀ u ∈ vs, u.oneCell' = true := by rw [hvs]; intro x hx; simp at hx; rcases hx with rfl | rfl | rfl <;> rfl
  have hvl : vs.length = 3 := by rw [hvs]; rfl
  have hvc : ∀ j u, vs[j]? = some u → w.cell? ⟨vb, j, none⟩ = some u := fun j u hj => by
    rw [hvs] at hj
    match j, hj with
    | 0, hj => simp at hj; subst hj; simp [World.cell?, hv]
    | 1, hj => simp at hj; subst hj; simp [World.cell?, hv]
    | 2, hj => simp at hj; subst hj; simp [World.cell?, hv]
    | j + 3, hj => simp at hj
  rw [hcs] at hfx hxl hrow'
  have hdl : (cs.drop (i * 3)).length = (n - i) * 3 := by rw [List.length_drop, hxl]; omega
  have hcell : ∀ j, j < cap * 3 → (w.drew.cell? ⟨g, j, none⟩).isSome = true := fun j hj => by
    have := hr.cell (i := j) hj
    show (w.cell? _).isSome = true
    rw [this]; rfl
  have hfr : ∀ j, w.drew.frozen? ⟨g, j, none⟩ = false := fun j => hr.frozen j
  have hcc : ∀ j u, cs[j]? = some u → w.drew.cell? ⟨g, j, none⟩ = some u := fun j u hj => by
    have hjl := (List.getElem?_eq_some_iff.1 hj).1
    show w.cell? _ = some u
    rw [hr.cell (i := j) (by omega), hfx j u hj]
  have mixed : Tryz.prog.follows Departure.mixedOrders = true := by kernel_rfl
  have hcp1 : ∀ ty dc sc, (Builtin.copy_ #[38, 38] ty #[.slice (some ⟨g, (i + 1) * 3, none⟩) (n - i) dc, .slice (some ⟨g, i * 3, none⟩) (n + 1 - i) sc]).run Tryz.prog w.drew = .ok (goInt ((n - i : Nat) : Nat)) (w.drew.setCells g ((i + 1) * 3) (cs.drop (i * 3))) := fun ty dc sc =>
    run_copy_cellsN w.drew _ _ ty 108 3 g ((i + 1) * 3) (n - i) dc ⟨g, i * 3, none⟩ (n + 1 - i) sc (n - i) (cs.drop (i * 3)) Tryz.underlying38 hsz (by simp only [Nat.min_def]; split <;> omega) hdl
      (fun j v hj => by rw [Addr.add_lit]; exact hcc (i * 3 + j) v (by rwa [List.getElem?_drop] at hj))
      (fun j hj => hcell _ (by omega)) (fun j hj => hfr _) (fun v hv => h1c v (List.mem_of_mem_drop hv))
  obtain ⟨W1, hW1⟩ : ∃ W1, W1 = w.drew.setCells g ((i + 1) * 3) (cs.drop (i * 3)) := ⟨_, rfl⟩
  have hr1 := rowIs_setCells (cs.drop (i * 3)) ((i + 1) * 3) _ _ hr.drew
  rw [← hW1] at hr1
  have hW1v : ∀ x, W1.cell? ⟨vb, x, none⟩ = w.cell? ⟨vb, x, none⟩ := fun x => by
    rw [hW1]
    exact World.cell?_setCells_out g _ _ _ _ (fun h _ => absurd h hne)
  have hcp2 : ∀ (W : World), (∀ x, W.cell? x = W1.cell? x) → (∀ x, W.frozen? x = W1.frozen? x) → ∀ ty dc, (Builtin.copy_ #[38, 38] ty #[.slice (some ⟨g, i * 3, none⟩) (n + 1 - i) dc, .slice (some ⟨vb, 0, none⟩) 1 1]).run Tryz.prog W = .ok (goInt (1 : Nat)) (W.setCells g (i * 3) vs) := fun W hWc hWf ty dc =>
    run_copy_cellsN W _ _ ty 108 3 g (i * 3) (n + 1 - i) dc ⟨vb, 0, none⟩ 1 1 1 vs Tryz.underlying38 hsz (by simp only [Nat.min_def]; split <;> omega) (by rw [hvl])
      (fun j v hj => by rw [Addr.add_lit, Nat.zero_add, hWc, hW1v]; exact hvc j v hj)
      (fun j hj => by rw [hWc, hr1.cell (by omega)]; rfl) (fun j hj => by rw [hWf]; exact hr1.frozen _) h1v
  have hr2 := rowIs_setCells vs (i * 3) _ _ hr1
  have hfin := owns_of_rowIs (m := n + 1) hr2 hbg hroom hcm
  have hgrow : w.grownBy (W1.setCells g (i * 3) vs) (some g) := by
    rw [hW1]
    exact grown_two (grown_drew w _) (grown_two (setCells_grown g _ _ _) (setCells_grown g _ _ _))
  have hlist : (List.range ((n + 1) * 3)).map (fun j => if i * 3 ≤ j ∧ j < i * 3 + vs.length then vs[j - i * 3]?.getD default else if (i + 1) * 3 ≤ j ∧ j < (i + 1) * 3 + (cs.drop (i * 3)).length then (cs.drop (i * 3))[j - (i + 1) * 3]?.getD default else f j) = plCells (insL L i e) := by
    rw [insL_cells, hcs, ← hvs]
    apply List.ext_getElem?
    intro j
    have h1 : (cs.take (i * 3)).length = i * 3 := by simp; omega
    by_cases hj : j < (n + 1) * 3
    · rw [List.getElem?_map, List.getElem?_range hj]
      simp only [Option.map_some]
      by_cases ha : j < i * 3
      · rw [if_neg (by omega), if_neg (by omega), List.getElem?_append_left (by omega), List.getElem?_take_of_lt ha]
        have := List.getElem?_eq_getElem (l := cs) (i := j) (by omega)
        rw [this, hfx j _ this]
      · rw [List.getElem?_append_right (by omega), h1]
        by_cases hb : j < i * 3 + 3
        · rw [if_pos (by omega), List.getElem?_append_left (by omega)]
          have := List.getElem?_eq_getElem (l := vs) (i := j - i * 3) (by omega)
          rw [this]; rfl
        · rw [if_neg (by omega), if_pos (by omega), List.getElem?_append_right (by omega), hvl]
          have h3 : j - (i + 1) * 3 = j - i * 3 - 3 := by omega
          rw [h3]
          have := List.getElem?_eq_getElem (l := cs.drop (i * 3)) (i := j - i * 3 - 3) (by omega)
          rw [this]; rfl
    · rw [List.getElem?_eq_none (by simp; omega), List.getElem?_eq_none (by simp; omega)]
  rw [hlist] at hfin
  have hfinH := Lib.hid hfin
  have hgrowH := Lib.hid hgrow
  have hnH := Lib.hid hnn
  rw [← hW1] at hcp1
  have hz1' : ¬ ((1 : Int) = 0) := by omega
  have hz2' : ¬ ((i : Int) = (n : Int)) := by omega
  have hw1 : IntKind.i64.wrap ((i : Int) + 1) = (i : Int) + 1 := IntWalk.i64_in _ ⟨by omega, by omega⟩
  have hb1 : (0 : Int) ≤ (i : Int) + 1 := by omega
  have htn : ((i : Int) + 1).toNat = i + 1 := by omega
  have hb3 : (i : Int) ≤ (n : Int) + 1 := by omega
  have hb2 : ¬ (cap = i + 1) := by omega
  have hb4 : ¬ (cap = i) := by omega
  have hb5 : i + 1 ≤ n + 1 := by omega
  have hb6 : i ≤ n + 1 := by omega
  have hin : i ≤ n := by omega
  clear hrow hrow' hr hfx hg0 hgs hv h1c h1v hvc hcell hfr hcc hr1 hr2 hfin hgrow hlist hW1v hvs hvl hdl hxl hcs hnn
  go_enter Tryz.func83, Tryz.ntmps83
  go_wp2_with (simp only [hov])
  go_region_law_o (refine step_copy_runA rfl _ _ 38 38 rfl _ _ (by simp [Act.eval, Act.put]) (by simp [Act.eval, Act.put]) (hcp1 _ _ _) ?_)
  go_wp2_with (at_builtin; refine wpList_copy_runA _ rfl _ _ 38 38 rfl _ _ rfl rfl (hcp2 _ (fun _ => rfl) (fun _ => rfl) _ _) ?_)
  go_ret
  refine ⟨_, rfl, ?_, by rw [← hW1]; exact hgrowH.out⟩
  rw [insL_len, hnH.out, ← hW1]
  exact hfinH.out
set_option maxHeartbeats 4000000 in
set_option maxRecDepth 1000000 in
/-- in the midst, without room: a new row -/
theorem InsertP_grow (base g cap i vb : Nat) (L : List Pl) (e : Pl) (w : World) (hrow : w.ownsRow base 108 3 (.slice (some ⟨g, 0, none⟩) L.length cap) L.length (plCells L)) (hn : L.length ≤ 100000) (hi : i < L.length) (hroom : cap < L.length + 1) (hbase : base ≤ w.heap.size)
    (hv : w.heap[vb]? = some (Obj.cells #[.int .i64 e.x, .int .i64 e.y, .int .i64 e.t] 108)) :
    Calls Tryz.prog 83 #[.slice (some ⟨g, 0, none⟩) L.length cap, .int .i64 (i : Int), .slice (some ⟨vb, 0, none⟩) 1 1] w (InsRes base w (.slice (some ⟨g, 0, none⟩) L.length cap) (insL L i e)) := by
  obtain ⟨i0, hi0, hz0, hz1, hz2⟩ := info_parts infoPl
  obtain ⟨f, hr, hfx, hbg, hnc, hcm, hxl⟩ := rowIs_of_owns hrow
  obtain ⟨n, hnn⟩ : ∃ n, L.length = n := ⟨_, rfl⟩
  rw [hnn] at hn hi hroom hnc hxl
  rw [hnn]
  have hcn : cap = n := by omega
  subst hcn
  have hsz : (Tryz.prog.info? 108).map (·.size) = some 3 := by rw [hi0]; simp [hz1]
  obtain ⟨cs, hcs⟩ : ∃ cs, plCells L = cs := ⟨_, rfl⟩
  obtain ⟨vs, hvs⟩ : ∃ vs, vs = [Value.int .i64 e.x, .int .i64 e.y, .int .i64 e.t] := ⟨_, rfl⟩
  have h1c : ∀ u ∈ cs, u.oneCell' = true := by rw [← hcs]; exact plCells_one L
  have h1v : ∀ u ∈ vs, u.oneCell' = true := by rw [hvs]; intro x hx; simp at hx; rcases hx with rfl | rfl | rfl <;> rfl
  have hvl : vs.length = 3 := by rw [hvs]; rfl
  have hvlt : vb < w.heap.size := (Array.getElem?_eq_some_iff.1 hv).1
  have hvc : ∀ j u, vs[j]? = some u → w.cell? ⟨vb, j, none⟩ = some u := fun j u hj => by
    rw [hvs] at hj
    match j, hj with
    | 0, hj => simp at hj; subst hj; simp [World.cell?, hv]
    | 1, hj => simp at hj; subst hj; simp [World.cell?, hv]
    | 2, hj => simp at hj; subst hj; simp [World.cell?, hv]
    | j + 3, hj => simp at hj
  rw [hcs] at hfx hxl
  have hgl : g < w.heap.size := hr.lt
  have hdl : (cs.drop (i * 3)).length = (cap - i) * 3 := by rw [List.length_drop, hxl]; omega
  have hcc : ∀ j u, cs[j]? = some u → w.cell? ⟨g, j, none⟩ = some u := fun j u hj => by
    have hjl := (List.getElem?_eq_some_iff.1 hj).1
    rw [hr.cell (i := j) (by omega), hfx j u hj]
  obtain ⟨mm, hmm⟩ : ∃ mm, mm = cap + 1 - i := ⟨_, rfl⟩
  have him : i + mm = cap + 1 := by omega
  obtain ⟨C9, hC9⟩ : ∃ C9, grownCap w (cap + 1) cap 108 = C9 := ⟨_, rfl⟩
  have hC1 : cap + 1 ≤ C9 := by rw [← hC9]; exact grownCap_ge _ _ _ _
  have hC2 : C9 ≤ maxLen := by rw [← hC9]; exact grownCap_le_maxLen _ _ _ _ (by unfold maxLen; omega)
  have hC63 : C9 ≤ 9223372036854775807 := by unfold maxLen at hC2; omega
  obtain ⟨zc, hzc⟩ : ∃ zc, zc = (Value.agg #[Value.int .i64 0, .int .i64 0, .int .i64 0]).cells := ⟨_, rfl⟩
  have hzs : zc.size = 3 := by rw [hzc]; rfl
  obtain ⟨cells9, hc9⟩ : ∃ cells9, cells9 = (cs.take (i * 3)).toArray ++ Builtin.zeroCells zc mm ++ Builtin.zeroCells zc (C9 - (cap + 1)) := ⟨_, rfl⟩
  have hs9 : cells9.size = C9 * 3 := by
    rw [hc9]
    simp only [Array.size_append, List.size_toArray, List.length_take, size_zeroCells, hzs, hxl]
    omega
  obtain ⟨w9, hw9⟩ : ∃ W, W = w.drew.alloc (Obj.cells cells9 108) := ⟨_, rfl⟩
  have hr9 : w9.rowIs w.heap.size 108 (C9 * 3) (fun j => cells9.getD j undef) := by
    rw [hw9, ← hs9]
    exact World.rowIs_alloc w.drew cells9 108 _ (fun j hj => by simp [hj])
  have hold : (Builtin.firstCells i0.size i (.slice (some ⟨g, 0, none⟩) i cap)).run Tryz.prog w.drew = .ok (cs.take (i * 3)).toArray w.drew := by
    rw [hz1]
    exact run_firstCells_some (P := Tryz.prog) w.drew 3 i ⟨g, 0, none⟩ i cap (cs.take (i * 3)) (by simp; omega) (fun j u hj => by
      rw [Addr.add_lit, Nat.zero_add]
      rw [List.getElem?_take] at hj
      split at hj
      · exact hcc j u hj
      · cases hj)
  have happ : ∀ ty, (Builtin.append_ #[38, 3] ty #[.slice (some ⟨g, 0, none⟩) i cap, .int .i64 (mm : Int)]).run Tryz.prog w = .ok (.slice (some ⟨w.heap.size, 0, none⟩) (cap + 1) C9) w9 := fun ty => by
    have h := run_append_grow_zerosA (P := Tryz.prog) w 38 3 ty 108 i0 _ .i64 .i64 Tryz.underlying38 Tryz.underlying3 hi0 hz0 (some ⟨g, 0, none⟩) i cap (cs.take (i * 3)) hold mm (by omega) (by omega) (by omega) (by omega) (by rw [hz2]; omega) (by rw [hz2, him]; exact growslice_fits (by omega) (by omega))
    rw [him, hC9] at h
    rw [h, hw9, hc9, hzc]
  obtain ⟨G9, hG9⟩ : ∃ G9, w.heap.size = G9 := ⟨_, rfl⟩
  have hold9 : ∀ b j, b < w.heap.size → w9.cell? ⟨b, j, none⟩ = w.cell? ⟨b, j, none⟩ := fun b j hb => by
    rw [hw9]
    exact World.cell?_alloc_lt w.drew _ ⟨b, j, none⟩ hb
  have hgr9 : w.grownBy w9 (some g) := by
    rw [hw9]
    exact grown_two (grown_drew w _) (World.grownBy_alloc w.drew _ _)
  have hg9l : ∀ {W : World} (vs : List Value) (o : Nat), w.grownBy W (some g) → w.grownBy (W.setCells G9 o vs) (some g) := fun {W} vs o hW => by
    have h := setCells_grown G9 vs o W
    exact ⟨h.os.trans hW.os, h.tape.trans hW.tape, h.output.trans hW.output, Nat.le_trans hW.size h.size, fun k hk hne => (h.block k (Nat.lt_of_lt_of_le hk hW.size) (fun e => by injection e; omega)).trans (hW.block k hk hne)⟩
  have hr10 := rowIs_setCells vs (i * 3) _ _ hr9
  obtain ⟨w10, hw10⟩ : ∃ W, W = w9.setCells G9 (i * 3) vs := ⟨_, rfl⟩
  rw [hG9] at hr9 hr10 happ
  rw [← hw10] at hr10
  have hr11 := rowIs_setCells (cs.drop (i * 3)) ((i + 1) * 3) _ _ hr10.drew
  have hfin := owns_of_rowIs (base := base) (m := cap + 1) hr11 (by omega) hC1 hC2
  have hgrow : w.grownBy (w10.drew.setCells G9 ((i + 1) * 3) (cs.drop (i * 3))) (some g) := hg9l _ _ (grown_two (by rw [hw10]; exact hg9l _ _ hgr9) (grown_drew _ _))
  have hcp1 : ∀ ty dc, (Builtin.copy_ #[38, 38] ty #[.slice (some ⟨G9, i * 3, none⟩) (cap + 1 - i) dc, .slice (some ⟨vb, 0, none⟩) 1 1]).run Tryz.prog w9 = .ok (goInt (1 : Nat)) w10 := fun ty dc => by
    rw [hw10]
    exact run_copy_cellsN w9 _ _ ty 108 3 G9 (i * 3) (cap + 1 - i) dc ⟨vb, 0, none⟩ 1 1 1 vs Tryz.underlying38 hsz (by simp only [Nat.min_def]; split <;> omega) (by rw [hvl])
      (fun j v hj => by rw [Addr.add_lit, Nat.zero_add, hold9 _ _ hvlt]; exact hvc j v hj)
      (fun j hj => by rw [hr9.cell (by omega)]; rfl) (fun j hj => hr9.frozen _) h1v
  have hcp2 : ∀ ty dc sc, (Builtin.copy_ #[38, 38] ty #[.slice (some ⟨G9, (i + 1) * 3, none⟩) (cap - i) dc, .slice (some ⟨g, i * 3, none⟩) (cap - i) sc]).run Tryz.prog w10.drew = .ok (goInt ((cap - i : Nat) : Nat)) (w10.drew.setCells G9 ((i + 1) * 3) (cs.drop (i * 3))) := fun ty dc sc =>
    run_copy_cellsN w10.drew _ _ ty 108 3 G9 ((i + 1) * 3) (cap - i) dc ⟨g, i * 3, none⟩ (cap - i) sc (cap - i) (cs.drop (i * 3)) Tryz.underlying38 hsz (by simp only [Nat.min_def]; split <;> omega) hdl
      (fun j v hj => by
        rw [Addr.add_lit]
        show w10.cell? _ = _
        rw [hw10, World.cell?_setCells_out G9 _ _ _ _ (fun h _ => by dsimp only at h; omega), hold9 _ _ hgl]
        exact hcc (i * 3 + j) v (by rwa [List.getElem?_drop] at hj))
      (fun j hj => by
        show (w10.cell? _).isSome = true
        rw [hr10.cell (by omega)]; rfl) (fun j hj => hr10.frozen _) (fun v hv => h1c v (List.mem_of_mem_drop hv))
  have hlist : (List.range ((cap + 1) * 3)).map (fun j => if (i + 1) * 3 ≤ j ∧ j < (i + 1) * 3 + (cs.drop (i * 3)).length then (cs.drop (i * 3))[j - (i + 1) * 3]?.getD default else if i * 3 ≤ j ∧ j < i * 3 + vs.length then vs[j - i * 3]?.getD default else cells9.getD j undef) = plCells (insL L i e) := by
    rw [insL_cells, hcs, ← hvs]
    apply List.ext_getElem?
    intro j
    have h1 : (cs.take (i * 3)).length = i * 3 := by simp; omega
    by_cases hj : j < (cap + 1) * 3
    · rw [List.getElem?_map, List.getElem?_range hj]
      simp only [Option.map_some]
      by_cases ha : j < i * 3
      · rw [if_neg (by omega), if_neg (by omega), List.getElem?_append_left (by omega)]
        have h2 := List.getElem?_eq_getElem (l := cs.take (i * 3)) (i := j) (by omega)
        rw [h2]
        congr 1
        have h3 : cells9[j]? = some ((cs.take (i * 3))[j]'(by omega)) := by
          rw [hc9, Array.getElem?_append_left (by simp; omega), Array.getElem?_append_left (by simp; omega), List.getElem?_toArray]
          exact h2
        simp [Array.getD_eq_getD_getElem?, h3]
      · rw [List.getElem?_append_right (by omega), h1]
        by_cases hb : j < i * 3 + 3
        · rw [if_neg (by omega), if_pos (by omega), List.getElem?_append_left (by omega)]
          have := List.getElem?_eq_getElem (l := vs) (i := j - i * 3) (by omega)
          rw [this]; rfl
        · rw [if_pos (by omega), List.getElem?_append_right (by omega), hvl]
          have h3 : j - (i + 1) * 3 = j - i * 3 - 3 := by omega
          rw [h3]
          have := List.getElem?_eq_getElem (l := cs.drop (i * 3)) (i := j - i * 3 - 3) (by omega)
          rw [this]; rfl
    · rw [List.getElem?_eq_none (by simp; omega), List.getElem?_eq_none (by simp; omega)]
  rw [hlist] at hfin
  have hfinH := Lib.hid hfin
  have hgrowH := Lib.hid hgrow
  have hnH := Lib.hid hnn
  have mixed : Tryz.prog.follows Departure.mixedOrders = true := by kernel_rfl
  have hz1' : ¬ ((1 : Int) = 0) := by omega
  have hz2' : ¬ ((i : Int) = (cap : Int)) := by omega
  have hw1 : IntKind.i64.wrap ((i : Int) + 1) = (i : Int) + 1 := IntWalk.i64_in _ ⟨by omega, by omega⟩
  have hw2 : IntKind.i64.wrap ((cap : Int) + 1) = (cap : Int) + 1 := IntWalk.i64_in _ ⟨by omega, by omega⟩
  have hw3 : IntKind.i64.wrap ((cap : Int) + 1 - (i : Int)) = (mm : Int) := by rw [IntWalk.i64_in _ ⟨by omega, by omega⟩]; omega
  have hb1 : (0 : Int) ≤ (i : Int) + 1 := by omega
  have htn : ((i : Int) + 1).toNat = i + 1 := by omega
  have hb2 : ¬ (C9 = i + 1) := by omega
  have hb3 : ¬ (C9 = i) := by omega
  have hb4 : ¬ (cap = i) := by omega
  have hb5 : (i : Int) ≤ (cap : Int) + 1 := by omega
  have hin : i ≤ cap := by omega
  have hlt1 : (cap : Int) < (cap : Int) + 1 := by omega
  clear hrow hr hfx hv h1c h1v hvc hcc hr9 hr10 hr11 hfin hgrow hlist hvs hvl hdl hxl hcs hnn hg9l hgr9 hold9 hw10 hw9 hc9 hs9 hzs hzc hold hC9 hC2 hmm
  go_enter Tryz.func83, Tryz.ntmps83
  go_wp2_with (at_builtin; first
    | refine Lib.wpList_append_run _ rfl _ _ 38 3 rfl _ _ rfl rfl _ _ (happ _) ?_
    | refine wpList_copy_runA _ rfl _ _ 38 38 rfl _ _ rfl rfl (hcp1 _ _) ?_)
  go_region_law_o (refine step_copy_runA rfl _ _ 38 38 rfl _ _ (by simp [Act.eval, Act.put]) (by simp [Act.eval, Act.put]) (hcp2 _ _ _) ?_)
  go_wp2_with fail
  go_ret
  refine ⟨_, rfl, ?_, hgrowH.out⟩
  rw [insL_len, hnH.out]
  exact hfinH.out
theorem InsertP_any (base vb i : Nat) (v : Value) (L : List Pl) (e : Pl) (w : World) (hrow : w.ownsRow base 108 3 v L.length (plCells L)) (hn : L.length ≤ 100000) (hi : i ≤ L.length) (hbase : base ≤ w.heap.size)
    (hv : w.heap[vb]? = some (Obj.cells #[.int .i64 e.x, .int .i64 e.y, .int .i64 e.t] 108)) (hne : v.ownBlock ≠ some vb) :
    Calls Tryz.prog 83 #[v, .int .i64 (i : Int), .slice (some ⟨vb, 0, none⟩) 1 1] w (InsRes base w v (insL L i e)) := by
  by_cases he : i = L.length
  · subst he
    exact InsertP_end base vb v L e w hrow hn hbase hv
  · rcases hrow.2 with ⟨_, h0⟩ | ⟨g, cap, cur, rfl, _, _, _⟩
    · omega
    · by_cases hr : L.length + 1 ≤ cap
      · exact InsertP_shift base g cap i vb L e w hrow hn (by omega) hr hv (fun e' => hne (by rw [e']; rfl))
      · exact InsertP_grow base g cap i vb L e w hrow hn (by omega) (by omega) hbase hv
end Go.Proofs.YthieodccakphiaaGreat
