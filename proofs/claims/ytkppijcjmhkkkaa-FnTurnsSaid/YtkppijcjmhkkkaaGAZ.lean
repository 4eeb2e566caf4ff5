import Derived.Test.YtkppijcjmhkkkaaGAQ
import Derived.Lib.LazyBuf
import Derived.Lib.SliceRun
import Derived.Test.YtkppijcjmhkkkaaGAJ
import Derived.Deep.RegionLaw
import Derived.Shelf.RegionOpenPlain
import Derived.Test.YtkppijcjmhkkkaaGAN
import Derived.Lib.Walk
import Derived.Lib.AppendZeros
import Derived.Lib.Overlaps
import Derived.Laws.Externs
import Derived.Laws.IdiomCopy
import Derived.Deep.AppendSrc
set_option linter.unusedSimpArgs false
set_option linter.unusedVariables false
/- Walks: a list of bonds copied; its weak bonds struck out. -/



namespace Go.Proofs.Ytkppijcjmhkkkaa
open Go.RowKit Go.Shelf
attribute [local go_sem] BelowBy.cell BelowBy.cell_drew stillUpon givesUpon BelowBy.cell_drew2 BelowBy.cell_drew3

theorem bdCells_one (bs : List Bd) : ∀ u ∈ bdCells bs, u.oneCell' = true := by
  induction bs with
  | nil => simp [bdCells]
  | cons b l ih =>
    intro u hu
    simp only [bdCells, List.mem_cons] at hu
    rcases hu with rfl | rfl | rfl | hu
    · rfl
    · rfl
    · rfl
    · exact ih u hu
/-- what is struck out -/
def weakB (t : Int) (b : Bd) : Bool := decide (b.s < t)
def FirstK (w : World) (n : Nat) (del : Nat → Bool) (e : Ending) (w' : World) : Prop :=
  ((e = .returned (.int .i64 (-1)) ∧ ∀ j, j < n → del j = false) ∨ ∃ k : Nat, k < n ∧ e = .returned (.int .i64 (k : Int)) ∧ del k = true ∧ ∀ j, j < k → del j = false) ∧ Below w.heap.size w w'
def delAt (t : Int) (bs : List Bd) (j : Nat) : Bool := match bs[j]? with
  | none => false
  | some b => weakB t b
theorem delAt_eq {t : Int} {bs : List Bd} {j : Nat} {b : Bd} (h : bs[j]? = some b) : delAt t bs j = weakB t b := by unfold delAt; rw [h]
theorem run_clear_rows {P : Program} (w : World) (t e ty : TypeId) (z : Value) (ht : P.underlying t = some (.slice e)) (hv : ∀ w, (zeroValue e).run P w = .ok z w) (b o n c : Nat) (hn : 0 < n)
    (hc : ∀ j, j < n * z.cells.size → (w.cell? ⟨b, o + j, none⟩).isSome = true) (hf : ∀ j, j < n * z.cells.size → w.frozen? ⟨b, o + j, none⟩ = false) (h1 : ∀ u ∈ (Builtin.zeroCells z.cells n).toList, u.oneCell' = true) :
    (Builtin.clear_ #[t] ty #[.slice (some ⟨b, o, none⟩) n c]).run P w = .ok (.tuple #[]) (w.setCells b o (Builtin.zeroCells z.cells n).toList) := by
  have hlen : (Builtin.zeroCells z.cells n).toList.length = n * z.cells.size := by simp [size_zeroCells]
  have hst := run_storeCells_cells (P := P) b o (Builtin.zeroCells z.cells n).toList 0 w (by rw [hlen]; simpa using hc) (by rw [hlen]; simpa using hf) h1
  simp only [Nat.add_zero] at hst
  obtain ⟨m, rfl⟩ : ∃ m, n = m + 1 := ⟨n - 1, by omega⟩
  simp [Builtin.clear_, run_underlying ht, hv, hst]
theorem zero3 (n : Nat) : ∀ u ∈ (Builtin.zeroCells #[Value.int .i64 0, .int .i64 0, .int .i64 0] n).toList, u.oneCell' = true := by
  intro u hu
  simp only [Builtin.zeroCells, Array.toList_map, List.mem_map] at hu
  obtain ⟨i, _, rfl⟩ := hu
  have : i % 3 = 0 ∨ i % 3 = 1 ∨ i % 3 = 2 := by omega
  rcases this with h | h | h <;> simp [h] <;> rfl
def keepL (t : Int) (bs : List Bd) (k : Nat) : List Bd := (bs.take k).filter fun b => !weakB t b
theorem keepL_succ_yes {t : Int} {bs : List Bd} {k : Nat} {e : Bd} (he : bs[k]? = some e) (h : weakB t e = false) : keepL t bs (k + 1) = keepL t bs k ++ [e] := by
  obtain ⟨hk, rfl⟩ := List.getElem?_eq_some_iff.1 he
  unfold keepL; rw [List.take_succ_eq_append_getElem hk, List.filter_append]; simp [h]
theorem keepL_succ_no {t : Int} {bs : List Bd} {k : Nat} {e : Bd} (he : bs[k]? = some e) (h : weakB t e = true) : keepL t bs (k + 1) = keepL t bs k := by
  obtain ⟨hk, rfl⟩ := List.getElem?_eq_some_iff.1 he
  unfold keepL; rw [List.take_succ_eq_append_getElem hk, List.filter_append]; simp [h]
theorem keepL_len (t : Int) (bs : List Bd) (k : Nat) : (keepL t bs k).length ≤ k := Nat.le_trans (List.length_filter_le _ _) (List.length_take_le _ _)
theorem keepL_all {t : Int} {bs : List Bd} {k : Nat} (h : ∀ j, j < k → delAt t bs j = false) : keepL t bs k = bs.take k := by
  unfold keepL
  rw [List.filter_eq_self]
  intro b hb
  obtain ⟨j, hj, rfl⟩ := List.mem_iff_getElem.1 hb
  have hj' : j < k ∧ j < bs.length := by simp at hj; omega
  have := h j hj'.1
  rw [delAt_eq (List.getElem?_eq_getElem hj'.2)] at this
  simpa using this
/-- what is left of a row of bonds -/
def DelRes (base : Nat) (w : World) (l : List Bd) (e : Ending) (w' : World) : Prop := ∃ A c, e = .returned (.slice A l.length c) ∧ RdSl 3 RBd w' A l.length l ∧ Below base w w'
theorem DelRes.of {base n : Nat} {w w' : World} {l : List Bd} {A : Option Addr} {c : Nat} (hn : n = l.length) (h : RdSl 3 RBd w' A l.length l) (hb : Below base w w') : DelRes base w l (.returned (.slice A n c)) w' := by
  subst hn; exact ⟨A, c, rfl, h, hb⟩
end Go.Proofs.Ytkppijcjmhkkkaa
/- Walks: one element struck out of a row by slices.Delete. -/






namespace Go.Proofs.Ytkppijcjmhkkkaa
open Go.RowKit Go.Shelf
attribute [local go_sem] BelowBy.cell BelowBy.cell_drew stillUpon givesUpon BelowBy.cell_drew2 BelowBy.cell_drew3

theorem setCells_grown (g : Nat) : ∀ (vs : List Value) (o : Nat) (w : World), w.grownBy (w.setCells g o vs) (some g)
  | [], _, _ => ⟨rfl, rfl, rfl, Nat.le_refl _, fun _ _ _ => rfl⟩
  | v :: r, o, w => by
    have ih := setCells_grown g r (o + 1) (w.setCell ⟨g, o, none⟩ v)
    refine ⟨ih.os, ih.tape, ih.output, Nat.le_trans (by simp) ih.size, fun k hk hne => (ih.block k (by simpa using hk) hne).trans (Below.heap_setCell _ _ _ _ (fun e => hne (by rw [e])))⟩
theorem grown_two {w w1 w2 : World} {r : Option Nat} (h : w.grownBy w1 r) (k : w1.grownBy w2 r) : w.grownBy w2 r :=
  ⟨k.os.trans h.os, k.tape.trans h.tape, k.output.trans h.output, Nat.le_trans h.size k.size, fun i hi hne => (k.block i (Nat.lt_of_lt_of_le hi h.size) hne).trans (h.block i hi hne)⟩
theorem grown_drew (w : World) (r : Option Nat) : w.grownBy w.drew r := grown_below (Below.drew (Below.refl _ _)) r
theorem rowIs_of_owns {w : World} {base g n cap size : Nat} {e : TypeId} {xs : List Value} (h : w.ownsRow base e size (.slice (some ⟨g, 0, none⟩) n cap) n xs) :
    ∃ f, w.rowIs g e (cap * size) f ∧ (∀ j u, xs[j]? = some u → f j = u) ∧ base ≤ g ∧ n ≤ cap ∧ cap ≤ maxLen ∧ xs.length = n * size := by
  rcases h.2 with ⟨h0, _⟩ | ⟨g', cap', cur, hv, hb, hh, hnc, hm, hs, ht⟩
  · cases h0
  · injection hv with a1 a2 a3
    injection a1 with a1
    injection a1 with a1 _ _
    subst a1 a3
    refine ⟨fun j => cur.getD j undef, ⟨cur, hh, hs, fun i hi => ?_⟩, fun j u hj => ?_, hb, hnc, hm, h.1⟩
    · have : i < cur.size := by omega
      simp [this]
    · have hjl := (List.getElem?_eq_some_iff.1 hj).1
      rw [h.1] at hjl
      rw [← ht, List.getElem?_take_of_lt hjl, Array.getElem?_toList] at hj
      simp [Array.getD_eq_getD_getElem?, hj]
theorem owns_of_rowIs {w : World} {base g m cap size : Nat} {e : TypeId} {f : Nat → Value} (h : w.rowIs g e (cap * size) f) (hb : base ≤ g) (hm : m ≤ cap) (hc : cap ≤ maxLen) :
    w.ownsRow base e size (.slice (some ⟨g, 0, none⟩) m cap) m ((List.range (m * size)).map f) := by
  obtain ⟨c, hh, hs, hf⟩ := h
  refine ⟨by simp, .inr ⟨g, cap, c, rfl, hb, hh, hm, hc, hs, ?_⟩⟩
  have hle : m * size ≤ cap * size := Nat.mul_le_mul_right _ hm
  apply List.ext_getElem?
  intro j
  by_cases hj : j < m * size
  · rw [List.getElem?_take_of_lt hj, Array.getElem?_toList, hf j (by omega)]
    simp [hj]
  · rw [List.getElem?_eq_none (by simp; omega), List.getElem?_eq_none (by simp; omega)]
/-- the cells behind: a tail moved to the left, then zeros -/
theorem erased_cells {f : Nat → Value} {xs zs : List Value} {a S N : Nat} (hx : ∀ j u, xs[j]? = some u → f j = u) (hl : xs.length = N) (ha : a + S ≤ N) :
    (List.range (N - S)).map (fun j => if N - S ≤ j ∧ j < N - S + zs.length then zs[j - (N - S)]?.getD default else if a ≤ j ∧ j < a + (xs.drop (a + S)).length then (xs.drop (a + S))[j - a]?.getD default else f j) = xs.take a ++ xs.drop (a + S) := by
  apply List.ext_getElem?
  intro j
  have h1 : (xs.take a).length = a := by simp; omega
  by_cases hj : j < N - S
  · rw [List.getElem?_map, List.getElem?_range hj]
    simp only [Option.map_some]
    rw [if_neg (by omega)]
    by_cases hja : j < a
    · rw [if_neg (by omega), List.getElem?_append_left (by omega), List.getElem?_take_of_lt hja]
      have := List.getElem?_eq_getElem (l := xs) (i := j) (by omega)
      rw [this, hx j _ this]
    · rw [if_pos (by simp; omega), List.getElem?_append_right (by omega), h1]
      have := List.getElem?_eq_getElem (l := xs.drop (a + S)) (i := j - a) (by simp; omega)
      rw [this]; rfl
  · rw [List.getElem?_eq_none (by simp; omega), List.getElem?_eq_none (by simp; omega)]
/-- what is left when element k is struck out -/
def DelAt (base g n cap k S : Nat) (T : TypeId) (xs : List Value) (w : World) (e : Ending) (w' : World) : Prop :=
  e = .returned (.slice (some ⟨g, 0, none⟩) (n - 1) cap) ∧ w'.ownsRow base T S (.slice (some ⟨g, 0, none⟩) (n - 1) cap) (n - 1) (xs.take (k * S) ++ xs.drop ((k + 1) * S)) ∧ w.grownBy w' (some g)
theorem delAt_of {base g n cap k S : Nat} {T : TypeId} {xs zs : List Value} {w : World} (h : w.ownsRow base T S (.slice (some ⟨g, 0, none⟩) n cap) n xs) (hk : k < n) (hz : zs.length = S) :
    ((w.drew.setCells g (k * S) (xs.drop ((k + 1) * S))).setCells g ((n - 1) * S) zs).ownsRow base T S (.slice (some ⟨g, 0, none⟩) (n - 1) cap) (n - 1) (xs.take (k * S) ++ xs.drop ((k + 1) * S)) ∧
      w.grownBy ((w.drew.setCells g (k * S) (xs.drop ((k + 1) * S))).setCells g ((n - 1) * S) zs) (some g) := by
  have hd : w.drew.ownsRow base T S (.slice (some ⟨g, 0, none⟩) n cap) n xs := h.kept (grown_drew w none) (Classical.em _)
  obtain ⟨f, hr, hx, hb, hnc, hm, hl⟩ := rowIs_of_owns hd
  have h1 := rowIs_setCells (xs.drop ((k + 1) * S)) (k * S) _ _ hr
  have h2 := rowIs_setCells zs ((n - 1) * S) _ _ h1
  have h3 := owns_of_rowIs (m := n - 1) h2 hb (by omega) hm
  have hmul : (k + 1) * S = k * S + S := Nat.succ_mul k S
  have hN : (n - 1) * S = n * S - S := by rw [Nat.sub_mul, Nat.one_mul]
  have hle : k * S + S ≤ n * S := by rw [← hmul]; exact Nat.mul_le_mul_right _ hk
  have hc := erased_cells (zs := zs) hx hl hle
  rw [hN, hmul] at h3
  rw [hc] at h3
  rw [hmul, hN]
  exact ⟨h3, grown_two (grown_drew w _) (grown_two (setCells_grown g _ _ _) (setCells_grown g _ _ _))⟩
theorem infoI64 : (Try.prog.info? 2).map (fun i => (i.zero, i.size, i.bytes)) = some (some (.int .i64 0), 1, 8) := by kernel_rfl
theorem infoI64S : (Try.prog.info? 37).map (fun i => (i.zero, i.size, i.bytes)) = some (some (.slice none 0 0), 1, 24) := by kernel_rfl
theorem zeros_len (z : Value) (n : Nat) : (Builtin.zeroCells z.cells n).toList.length = n * z.cells.size := by simp [size_zeroCells]
theorem zeros_one1 (z : Value) (hz : z.cells = #[z]) (h1 : z.oneCell' = true) (n : Nat) : ∀ u ∈ (Builtin.zeroCells z.cells n).toList, u.oneCell' = true := by
  intro u hu
  rw [hz] at hu
  simp only [Builtin.zeroCells, Array.toList_map, List.mem_map] at hu
  obtain ⟨i, _, rfl⟩ := hu
  have : i % 1 = 0 := by omega
  simp [Nat.mod_one, h1]
-- WALKS
end Go.Proofs.Ytkppijcjmhkkkaa
/- Walks: slices.Insert of one placed tile. -/








namespace Go.Proofs.Ytkppijcjmhkkkaa
open Go.RowKit Go.Shelf
attribute [local go_sem] BelowBy.cell BelowBy.cell_drew stillUpon givesUpon BelowBy.cell_drew2 BelowBy.cell_drew3

section
variable {P : Program}
/-- copy over cells of whatever size -/
theorem run_copy_cellsN (w : World) (dT sT ty elem : TypeId) (size b o dLen dCap : Nat) (a : Addr) (sLen sCap m : Nat) (cs : List Value)
    (hu : P.underlying dT = some (.slice elem)) (hs : (P.info? elem).map (·.size) = some size) (hm : m = Nat.min sLen dLen) (hn : cs.length = m * size)
    (hsrc : ∀ j v, cs[j]? = some v → w.cell? (a.add j) = some v) (hc : ∀ j, j < cs.length → (w.cell? ⟨b, o + j, none⟩).isSome = true) (hf : ∀ j, j < cs.length → w.frozen? ⟨b, o + j, none⟩ = false) (h1 : ∀ v ∈ cs, v.oneCell' = true) :
    (Builtin.copy_ #[dT, sT] ty #[.slice (some ⟨b, o, none⟩) dLen dCap, .slice (some a) sLen sCap]).run P w = .ok (goInt m) (w.setCells b o cs) := by
  have hl := run_loadCells_list (P := P) w a cs hsrc
  have hst := run_storeCells_cells (P := P) b o cs 0 w (by simpa using hc) (by simpa using hf) h1
  cases hq : P.info? elem with
  | none => simp [hq] at hs
  | some i =>
    have hi : i.size = size := by simpa [hq] using hs
    rw [hn] at hl
    simp [Builtin.copy_, run_underlying hu, Builtin.lenOf, Builtin.firstCells, sizeOf, typeInfo, hq, hi, ← hm, hl, hst]
theorem wp_copy_runA (w : World) {o : Oper} {a : Act} {K : Act → World → Prop} {Q : Exit → Act → World → Prop} (d s : Operand) (t t' : TypeId)
    (ho : o.op = .call { callee := .builtin .copy, args := #[d, s], argTypes := #[t, t'] }) (v u : Value) (hd : a.eval d = v) (hs : a.eval s = u) {v' : Value} {w' : World}
    (hr : (Builtin.copy_ #[t, t'] o.type #[v, u]).run P w = .ok v' w') (h : K (a.put o.dst v') w') : o.wp P a w K Q := by
  unfold Oper.wp execOp
  simp only [ho, resolve, invoke, builtin, Sem.run_bind, Sem.run_pure, Result.andThen_ok, List.map_toArray, List.map_cons, List.map_nil, hd, hs, hr]
  exact h
theorem wpList_copy_runA (w : World) {ops : Array Oper} {rest : List Oper} {o : Oper} {a : Act} {Q : Exit → Act → World → Prop} (hgd : o.guard = none) (d s : Operand) (t t' : TypeId)
    (ho : o.op = .call { callee := .builtin .copy, args := #[d, s], argTypes := #[t, t'] }) (v u : Value) (hd : a.eval d = v) (hs : a.eval s = u) {v' : Value} {w' : World}
    (hr : (Builtin.copy_ #[t, t'] o.type #[v, u]).run P w = .ok v' w') (h : wpList P ops Q rest (a.put o.dst v') w') : wpList P ops Q (o :: rest) a w :=
  wpList_plain hgd fun _ hK => wp_copy_runA w d s t t' ho v u hd hs hr (hK _ _ h)
theorem step_copy_runA {ops : Array Oper} {o : Oper} {a : Act} {w : World} {K : Act → World → Prop} {Q : Exit → Act → World → Prop} {E : Prop}
    (hg : o.guard = none) (d x : Operand) (dT sT : TypeId) (hop : o.op = Op.call { callee := Callee.builtin Builtin.copy, args := #[d, x], argTypes := #[dT, sT] })
    (v u : Value) (hd : a.eval d = v) (hx : a.eval x = u) {v' : Value} {w' : World} (hr : (Builtin.copy_ #[dT, sT] o.type #[v, u]).run P w = .ok v' w') (hK : K (a.put o.dst v') w') :
    if Region.wanted o (yielded ops a.tmps) = true then Oper.wp P o a w K Q else E := by
  have hw : Region.wanted o (yielded ops a.tmps) = true := by simp [Region.wanted, hg]
  rw [if_pos hw]
  unfold Oper.wp
  simp [execOp, hop, resolve, invoke, builtin, hd, hx, hr, Result.andThen]
  exact hK
/-- an append of zeros that does not fit: a new row of the elements and zeros -/
theorem run_append_grow_zerosA (w : World) (t tn ty e : TypeId) (i : TypeInfo) (z : Value) (k kn : IntKind) (ht : P.underlying t = some (.slice e)) (htn : P.underlying tn = some (.int kn)) (hi : P.info? e = some i) (hz : i.zero = some z)
    (base : Option Addr) (sLen sCap : Nat) (olds : List Value) (hold : (Builtin.firstCells i.size sLen (.slice base sLen sCap)).run P w.drew = .ok olds.toArray w.drew)
    (n : Nat) (h0 : 0 < n) (hs : 0 < i.size) (hg : sCap < sLen + n) (h63 : ((sLen + n : Nat) : Int) ≤ 9223372036854775807) (h48 : n * i.bytes ≤ 281474976710656) (hfit : Builtin.nextslicecap (sLen + n) sCap * i.bytes ≤ 281474976710656) :
    (Builtin.append_ #[t, tn] ty #[.slice base sLen sCap, .int k n]).run P w =
      .ok (.slice (some ⟨w.heap.size, 0, none⟩) (sLen + n) (grownCap w (sLen + n) sCap e)) (w.drew.alloc (.cells (olds.toArray ++ Builtin.zeroCells z.cells n ++ Builtin.zeroCells z.cells (grownCap w (sLen + n) sCap e - (sLen + n))) e)) := by
  have hn : n ≠ 0 := by omega
  have hnn : ¬ (sLen + n ≤ sCap) := by omega
  have hw : IntKind.i64.wrap (n : Int) = n := by rw [IntKind.wrap_i64]; omega
  have h63' : ¬ (9223372036854775807 < ((sLen : Int) + (n : Int))) := by omega
  have h63'' : ¬ (9223372036854775807 < (n : Int)) := by omega
  have h48' : ¬ (281474976710656 < Builtin.nextslicecap (sLen + n) sCap * i.bytes) := by omega
  have h48i : ¬ (281474976710656 < (n : Int) * (i.bytes : Int)) := by
    rw [← Int.natCast_mul]
    omega
  have hneg : ¬ ((n : Int) < 0) := by omega
  have hns : ¬ (n * i.size = 0) := Nat.mul_ne_zero hn (by omega)
  simp [Builtin.append_, run_underlying ht, run_underlying htn, sizeOf, typeInfo, zeroValue, hi, hz, asInt, asIntOf, hw, hn, hnn, hneg, hns, h63', h63'', h48', h48i, Question.forced, hold, newRow, grownCap]
end
/-- one tile put in at place i -/
def insL (L : List Pl) (i : Nat) (e : Pl) : List Pl := L.take i ++ e :: L.drop i
theorem plCells_app (l m : List Pl) : plCells (l ++ m) = plCells l ++ plCells m := by
  induction l with
  | nil => rfl
  | cons a l ih => simp [plCells, ih]
theorem plCells_take (l : List Pl) (i : Nat) : plCells (l.take i) = (plCells l).take (i * 3) := by
  induction l generalizing i with
  | nil => simp [plCells]
  | cons a l ih =>
    cases i with
    | zero => simp [plCells]
    | succ i => rw [show (i + 1) * 3 = i * 3 + 3 by omega]; simp [plCells, ih]
theorem plCells_drop (l : List Pl) (i : Nat) : plCells (l.drop i) = (plCells l).drop (i * 3) := by
  induction l generalizing i with
  | nil => simp [plCells]
  | cons a l ih =>
    cases i with
    | zero => simp [plCells]
    | succ i => rw [show (i + 1) * 3 = i * 3 + 3 by omega]; simp [plCells, ih]
theorem insL_cells (L : List Pl) (i : Nat) (e : Pl) : plCells (insL L i e) = (plCells L).take (i * 3) ++ ([.int .i64 e.x, .int .i64 e.y, .int .i64 e.t] ++ (plCells L).drop (i * 3)) := by
  unfold insL
  rw [plCells_app, plCells, plCells_take, plCells_drop]; rfl
theorem insL_len {L : List Pl} {i : Nat} {e : Pl} : (insL L i e).length = L.length + 1 := by
  unfold insL
  rw [List.length_append, List.length_cons, List.length_take, List.length_drop]
  omega
theorem insL_end (L : List Pl) (e : Pl) : insL L L.length e = L ++ [e] := by
  unfold insL; simp
end Go.Proofs.Ytkppijcjmhkkkaa
