import Derived.Test.YtpnahobgmemdjaaKC
import Derived.Lib.LazyBuf
import Derived.Lib.SliceRun
import Derived.Test.YtpnahobgmemdjaaN1
import Derived.Deep.RegionLaw
import Derived.Shelf.RegionOpenPlain
import Derived.Test.YtpnahobgmemdjaaPlC
import Derived.Lib.Walk
import Derived.Lib.AppendZeros
import Derived.Lib.Overlaps
import Derived.Laws.Externs
import Derived.Laws.IdiomCopy
import Derived.Deep.AppendSrc
import Derived.Test.YtpnahobgmemdjaaKH
import Derived.Test.YtpnahobgmemdjaaOrdApp
set_option linter.unusedSimpArgs false
set_option linter.unusedVariables false
/- Walks: a list of bonds copied; its weak bonds struck out. -/



namespace Go.Proofs.Ytpnahobgmemdjaa
open Go.RowKit Go.Shelf
attribute [local go_sem] BelowBy.cell BelowBy.cell_drew stillUpon givesUpon BelowBy.cell_drew2 BelowBy.cell_drew3

theorem bdCells_one (bs : List Bd) : ∀ u ∈ bdCells bs, u.oneCell' = true := by
  induction bs with
  | nil => simp [bdCells]
  | cons b l ih =>
    intro u hu
    simp only [bdCells, List.mem_cons] at hu
    rcases hu with rfl | rfl | rfl | hu
    · rfl
    · rfl
    · rfl
    · exact ih u hu
/-- what is struck out -/
def weakB (t : Int) (b : Bd) : Bool := decide (b.s < t)
def FirstK (w : World) (n : Nat) (del : Nat → Bool) (e : Ending) (w' : World) : Prop :=
  ((e = .returned (.int .i64 (-1)) ∧ ∀ j, j < n → del j = false) ∨ ∃ k : Nat, k < n ∧ e = .returned (.int .i64 (k : Int)) ∧ del k = true ∧ ∀ j, j < k → del j = false) ∧ Below w.heap.size w w'
def delAt (t : Int) (bs : List Bd) (j : Nat) : Bool := match bs[j]? with
  | none => false
  | some b => weakB t b
theorem delAt_eq {t : Int} {bs : List Bd} {j : Nat} {b : Bd} (h : bs[j]? = some b) : delAt t bs j = weakB t b := by unfold delAt; rw [h]
theorem run_clear_rows {P : Program} (w : World) (t e ty : TypeId) (z : Value) (ht : P.underlying t = some (.slice e)) (hv : ∀ w, (zeroValue e).run P w = .ok z w) (b o n c : Nat) (hn : 0 < n)
    (hc : ∀ j, j < n * z.cells.size → (w.cell? ⟨b, o + j, none⟩).isSome = true) (hf : ∀ j, j < n * z.cells.size → w.frozen? ⟨b, o + j, none⟩ = false) (h1 : ∀ u ∈ (Builtin.zeroCells z.cells n).toList, u.oneCell' = true) :
    (Builtin.clear_ #[t] ty #[.slice (some ⟨b, o, none⟩) n c]).run P w = .ok (.tuple #[]) (w.setCells b o (Builtin.zeroCells z.cells n).toList) := by
  have hlen : (Builtin.zeroCells z.cells n).toList.length = n * z.cells.size := by simp [size_zeroCells]
  have hst := run_storeCells_cells (P := P) b o (Builtin.zeroCells z.cells n).toList 0 w (by rw [hlen]; simpa using hc) (by rw [hlen]; simpa using hf) h1
  simp only [Nat.add_zero] at hst
  obtain ⟨m, rfl⟩ : ∃ m, n = m + 1 := ⟨n - 1, by omega⟩
  simp [Builtin.clear_, run_underlying ht, hv, hst]
theorem zero3 (n : Nat) : ∀ u ∈ (Builtin.zeroCells #[Value.int .i64 0, .int .i64 0, .int .i64 0] n).toList, u.oneCell' = true := by
  intro u hu
  simp only [Builtin.zeroCells, Array.toList_map, List.mem_map] at hu
  obtain ⟨i, _, rfl⟩ := hu
  have : i % 3 = 0 ∨ i % 3 = 1 ∨ i % 3 = 2 := by omega
  rcases this with h | h | h <;> simp [h] <;> rfl
def keepL (t : Int) (bs : List Bd) (k : Nat) : List Bd := (bs.take k).filter fun b => !weakB t b
theorem keepL_succ_yes {t : Int} {bs : List Bd} {k : Nat} {e : Bd} (he : bs[k]? = some e) (h : weakB t e = false) : keepL t bs (k + 1) = keepL t bs k ++ [e] := by
  obtain ⟨hk, rfl⟩ := List.getElem?_eq_some_iff.1 he
  unfold keepL; rw [List.take_succ_eq_append_getElem hk, List.filter_append]; simp [h]
theorem keepL_succ_no {t : Int} {bs : List Bd} {k : Nat} {e : Bd} (he : bs[k]? = some e) (h : weakB t e = true) : keepL t bs (k + 1) = keepL t bs k := by
  obtain ⟨hk, rfl⟩ := List.getElem?_eq_some_iff.1 he
  unfold keepL; rw [List.take_succ_eq_append_getElem hk, List.filter_append]; simp [h]
theorem keepL_len (t : Int) (bs : List Bd) (k : Nat) : (keepL t bs k).length ≤ k := Nat.le_trans (List.length_filter_le _ _) (List.length_take_le _ _)
theorem keepL_all {t : Int} {bs : List Bd} {k : Nat} (h : ∀ j, j < k → delAt t bs j = false) : keepL t bs k = bs.take k := by
  unfold keepL
  rw [List.filter_eq_self]
  intro b hb
  obtain ⟨j, hj, rfl⟩ := List.mem_iff_getElem.1 hb
  have hj' : j < k ∧ j < bs.length := by simp at hj; omega
  have := h j hj'.1
  rw [delAt_eq (List.getElem?_eq_getElem hj'.2)] at this
  simpa using this
/-- what is left of a row of bonds -/
def DelRes (base : Nat) (w : World) (l : List Bd) (e : Ending) (w' : World) : Prop := ∃ A c, e = .returned (.slice A l.length c) ∧ RdSl 3 RBd w' A l.length l ∧ Below base w w'
theorem DelRes.of {base n : Nat} {w w' : World} {l : List Bd} {A : Option Addr} {c : Nat} (hn : n = l.length) (h : RdSl 3 RBd w' A l.length l) (hb : Below base w w') : DelRes base w l (.returned (.slice A n c)) w' := by
  subst hn; exact ⟨A, c, rfl, h, hb⟩
end Go.Proofs.Ytpnahobgmemdjaa
/- Walks: one element struck out of a row by slices.Delete. -/






namespace Go.Proofs.Ytpnahobgmemdjaa
open Go.RowKit Go.Shelf
attribute [local go_sem] BelowBy.cell BelowBy.cell_drew stillUpon givesUpon BelowBy.cell_drew2 BelowBy.cell_drew3

theorem setCells_grown (g : Nat) : ∀ (vs : List Value) (o : Nat) (w : World), w.grownBy (w.setCells g o vs) (some g)
  | [], _, _ => ⟨rfl, rfl, rfl, Nat.le_refl _, fun _ _ _ => rfl⟩
  | v :: r, o, w => by
    have ih := setCells_grown g r (o + 1) (w.setCell ⟨g, o, none⟩ v)
    refine ⟨ih.os, ih.tape, ih.output, Nat.le_trans (by simp) ih.size, fun k hk hne => (ih.block k (by simpa using hk) hne).trans (Below.heap_setCell _ _ _ _ (fun e => hne (by rw [e])))⟩
theorem grown_two {w w1 w2 : World} {r : Option Nat} (h : w.grownBy w1 r) (k : w1.grownBy w2 r) : w.grownBy w2 r :=
  ⟨k.os.trans h.os, k.tape.trans h.tape, k.output.trans h.output, Nat.le_trans h.size k.size, fun i hi hne => (k.block i (Nat.lt_of_lt_of_le hi h.size) hne).trans (h.block i hi hne)⟩
theorem grown_drew (w : World) (r : Option Nat) : w.grownBy w.drew r := grown_below (Below.drew (Below.refl _ _)) r
theorem rowIs_of_owns {w : World} {base g n cap size : Nat} {e : TypeId} {xs : List Value} (h : w.ownsRow base e size (.slice (some ⟨g, 0, none⟩) n cap) n xs) :
    ∃ f, w.rowIs g e (cap * size) f ∧ (∀ j u, xs[j]? = some u → f j = u) ∧ base ≤ g ∧ n ≤ cap ∧ cap ≤ maxLen ∧ xs.length = n * size := by
  rcases h.2 with ⟨h0, _⟩ | ⟨g', cap', cur, hv, hb, hh, hnc, hm, hs, ht⟩
  · cases h0
  · injection hv with a1 a2 a3
    injection a1 with a1
    injection a1 with a1 _ _
    subst a1 a3
    refine ⟨fun j => cur.getD j undef, ⟨cur, hh, hs, fun i hi => ?_⟩, fun j u hj => ?_, hb, hnc, hm, h.1⟩
    · have : i < cur.size := by omega
      simp [this]
    · have hjl := (List.getElem?_eq_some_iff.1 hj).1
      rw [h.1] at hjl
      rw [← ht, List.getElem?_take_of_lt hjl, Array.getElem?_toList] at hj
      simp [Array.getD_eq_getD_getElem?, hj]
theorem owns_of_rowIs {w : World} {base g m cap size : Nat} {e : TypeId} {f : Nat → Value} (h : w.rowIs g e (cap * size) f) (hb : base ≤ g) (hm : m ≤ cap) (hc : cap ≤ maxLen) :
    w.ownsRow base e size (.slice (some ⟨g, 0, none⟩) m cap) m ((List.range (m * size)).map f) := by
  obtain ⟨c, hh, hs, hf⟩ := h
  refine ⟨by simp, .inr ⟨g, cap, c, rfl, hb, hh, hm, hc, hs, ?_⟩⟩
  have hle : m * size ≤ cap * size := Nat.mul_le_mul_right _ hm
  apply List.ext_getElem?
  intro j
  by_cases hj : j < m * size
  · rw [List.getElem?_take_of_lt hj, Array.getElem?_toList, hf j (by omega)]
    simp [hj]
  · rw [List.getElem?_eq_none (by simp; omega), List.getElem?_eq_none (by simp; omega)]
/-- the cells behind: a tail moved to the left, then zeros -/
theorem erased_cells {f : Nat → Value} {xs zs : List Value} {a S N : Nat} (hx : ∀ j u, xs[j]? = some u → f j = u) (hl : xs.length = N) (ha : a + S ≤ N) :
    (List.range (N - S)).map (fun j => if N - S ≤ j ∧ j < N - S + zs.length then zs[j - (N - S)]?.getD default else if a ≤ j ∧ j < a + (xs.drop (a + S)).length then (xs.drop (a + S))[j - a]?.getD default else f j) = xs.take a ++ xs.drop (a + S) := by
  apply List.ext_getElem?
  intro j
  have h1 : (xs.take a).length = a := by simp; omega
  by_cases hj : j < N - S
  · rw [List.getElem?_map, List.getElem?_range hj]
    simp only [Option.map_some]
    rw [if_neg (by omega)]
    by_cases hja : j < a
    · rw [if_neg (by omega), List.getElem?_append_left (by omega), List.getElem?_take_of_lt hja]
      have := List.getElem?_eq_getElem (l := xs) (i := j) (by omega)
      rw [this, hx j _ this]
    · rw [if_pos (by simp; omega), List.getElem?_append_right (by omega), h1]
      have := List.getElem?_eq_getElem (l := xs.drop (a + S)) (i := j - a) (by simp; omega)
      rw [this]; rfl
  · rw [List.getElem?_eq_none (by simp; omega), List.getElem?_eq_none (by simp; omega)]
/-- what is left when element k is struck out -/
def DelAt (base g n cap k S : Nat) (T : TypeId) (xs : List Value) (w : World) (e : Ending) (w' : World) : Prop :=
  e = .returned (.slice (some ⟨g, 0, none⟩) (n - 1) cap) ∧ w'.ownsRow base T S (.slice (some ⟨g, 0, none⟩) (n - 1) cap) (n - 1) (xs.take (k * S) ++ xs.drop ((k + 1) * S)) ∧ w.grownBy w' (some g)
theorem delAt_of {base g n cap k S : Nat} {T : TypeId} {xs zs : List Value} {w : World} (h : w.ownsRow base T S (.slice (some ⟨g, 0, none⟩) n cap) n xs) (hk : k < n) (hz : zs.length = S) :
    ((w.drew.setCells g (k * S) (xs.drop ((k + 1) * S))).setCells g ((n - 1) * S) zs).ownsRow base T S (.slice (some ⟨g, 0, none⟩) (n - 1) cap) (n - 1) (xs.take (k * S) ++ xs.drop ((k + 1) * S)) ∧
      w.grownBy ((w.drew.setCells g (k * S) (xs.drop ((k + 1) * S))).setCells g ((n - 1) * S) zs) (some g) := by
  have hd : w.drew.ownsRow base T S (.slice (some ⟨g, 0, none⟩) n cap) n xs := h.kept (grown_drew w none) (Classical.em _)
  obtain ⟨f, hr, hx, hb, hnc, hm, hl⟩ := rowIs_of_owns hd
  have h1 := rowIs_setCells (xs.drop ((k + 1) * S)) (k * S) _ _ hr
  have h2 := rowIs_setCells zs ((n - 1) * S) _ _ h1
  have h3 := owns_of_rowIs (m := n - 1) h2 hb (by omega) hm
  have hmul : (k + 1) * S = k * S + S := Nat.succ_mul k S
  have hN : (n - 1) * S = n * S - S := by rw [Nat.sub_mul, Nat.one_mul]
  have hle : k * S + S ≤ n * S := by rw [← hmul]; exact Nat.mul_le_mul_right _ hk
  have hc := erased_cells (zs := zs) hx hl hle
  rw [hN, hmul] at h3
  rw [hc] at h3
  rw [hmul, hN]
  exact ⟨h3, grown_two (grown_drew w _) (grown_two (setCells_grown g _ _ _) (setCells_grown g _ _ _))⟩
theorem infoI64 : (Try.prog.info? 2).map (fun i => (i.zero, i.size, i.bytes)) = some (some (.int .i64 0), 1, 8) := by kernel_rfl
theorem infoI64S : (Try.prog.info? 67).map (fun i => (i.zero, i.size, i.bytes)) = some (some (.slice none 0 0), 1, 24) := by kernel_rfl
theorem zeros_len (z : Value) (n : Nat) : (Builtin.zeroCells z.cells n).toList.length = n * z.cells.size := by simp [size_zeroCells]
theorem zeros_one1 (z : Value) (hz : z.cells = #[z]) (h1 : z.oneCell' = true) (n : Nat) : ∀ u ∈ (Builtin.zeroCells z.cells n).toList, u.oneCell' = true := by
  intro u hu
  rw [hz] at hu
  simp only [Builtin.zeroCells, Array.toList_map, List.mem_map] at hu
  obtain ⟨i, _, rfl⟩ := hu
  have : i % 1 = 0 := by omega
  simp [Nat.mod_one, h1]
-- WALKS
end Go.Proofs.Ytpnahobgmemdjaa
/- Walks: slices.Insert of one placed tile. -/








namespace Go.Proofs.Ytpnahobgmemdjaa
open Go.RowKit Go.Shelf
attribute [local go_sem] BelowBy.cell BelowBy.cell_drew stillUpon givesUpon BelowBy.cell_drew2 BelowBy.cell_drew3

section
variable {P : Program}
/-- copy over cells of whatever size -/
theorem run_copy_cellsN (w : World) (dT sT ty elem : TypeId) (size b o dLen dCap : Nat) (a : Addr) (sLen sCap m : Nat) (cs : List Value)
    (hu : P.underlying dT = some (.slice elem)) (hs : (P.info? elem).map (·.size) = some size) (hm : m = Nat.min sLen dLen) (hn : cs.length = m * size)
    (hsrc : ∀ j v, cs[j]? = some v → w.cell? (a.add j) = some v) (hc : ∀ j, j < cs.length → (w.cell? ⟨b, o + j, none⟩).isSome = true) (hf : ∀ j, j < cs.length → w.frozen? ⟨b, o + j, none⟩ = false) (h1 : ∀ v ∈ cs, v.oneCell' = true) :
    (Builtin.copy_ #[dT, sT] ty #[.slice (some ⟨b, o, none⟩) dLen dCap, .slice (some a) sLen sCap]).run P w = .ok (goInt m) (w.setCells b o cs) := by
  have hl := run_loadCells_list (P := P) w a cs hsrc
  have hst := run_storeCells_cells (P := P) b o cs 0 w (by simpa using hc) (by simpa using hf) h1
  cases hq : P.info? elem with
  | none => simp [hq] at hs
  | some i =>
    have hi : i.size = size := by simpa [hq] using hs
    rw [hn] at hl
    simp [Builtin.copy_, run_underlying hu, Builtin.lenOf, Builtin.firstCells, sizeOf, typeInfo, hq, hi, ← hm, hl, hst]
theorem wp_copy_runA (w : World) {o : Oper} {a : Act} {K : Act → World → Prop} {Q : Exit → Act → World → Prop} (d s : Operand) (t t' : TypeId)
    (ho : o.op = .call { callee := .builtin .copy, args := #[d, s], argTypes := #[t, t'] }) (v u : Value) (hd : a.eval d = v) (hs : a.eval s = u) {v' : Value} {w' : World}
    (hr : (Builtin.copy_ #[t, t'] o.type #[v, u]).run P w = .ok v' w') (h : K (a.put o.dst v') w') : o.wp P a w K Q := by
  unfold Oper.wp execOp
  simp only [ho, resolve, invoke, builtin, Sem.run_bind, Sem.run_pure, Result.andThen_ok, List.map_toArray, List.map_cons, List.map_nil, hd, hs, hr]
  exact h
theorem wpList_copy_runA (w : World) {ops : Array Oper} {rest : List Oper} {o : Oper} {a : Act} {Q : Exit → Act → World → Prop} (hgd : o.guard = none) (d s : Operand) (t t' : TypeId)
    (ho : o.op = .call { callee := .builtin .copy, args := #[d, s], argTypes := #[t, t'] }) (v u : Value) (hd : a.eval d = v) (hs : a.eval s = u) {v' : Value} {w' : World}
    (hr : (Builtin.copy_ #[t, t'] o.type #[v, u]).run P w = .ok v' w') (h : wpList P ops Q rest (a.put o.dst v') w') : wpList P ops Q (o :: rest) a w :=
  wpList_plain hgd fun _ hK => wp_copy_runA w d s t t' ho v u hd hs hr (hK _ _ h)
theorem step_copy_runA {ops : Array Oper} {o : Oper} {a : Act} {w : World} {K : Act → World → Prop} {Q : Exit → Act → World → Prop} {E : Prop}
    (hg : o.guard = none) (d x : Operand) (dT sT : TypeId) (hop : o.op = Op.call { callee := Callee.builtin Builtin.copy, args := #[d, x], argTypes := #[dT, sT] })
    (v u : Value) (hd : a.eval d = v) (hx : a.eval x = u) {v' : Value} {w' : World} (hr : (Builtin.copy_ #[dT, sT] o.type #[v, u]).run P w = .ok v' w') (hK : K (a.put o.dst v') w') :
    if Region.wanted o (yielded ops a.tmps) = true then Oper.wp P o a w K Q else E := by
  have hw : Region.wanted o (yielded ops a.tmps) = true := by simp [Region.wanted, hg]
  rw [if_pos hw]
  unfold Oper.wp
  simp [execOp, hop, resolve, invoke, builtin, hd, hx, hr, Result.andThen]
  exact hK
/-- an append of zeros that does not fit: a new row of the elements and zeros -/
theorem run_append_grow_zerosA (w : World) (t tn ty e : TypeId) (i : TypeInfo) (z : Value) (k kn : IntKind) (ht : P.underlying t = some (.slice e)) (htn : P.underlying tn = some (.int kn)) (hi : P.info? e = some i) (hz : i.zero = some z)
    (base : Option Addr) (sLen sCap : Nat) (olds : List Value) (hold : (Builtin.firstCells i.size sLen (.slice base sLen sCap)).run P w.drew = .ok olds.toArray w.drew)
    (n : Nat) (h0 : 0 < n) (hs : 0 < i.size) (hg : sCap < sLen + n) (h63 : ((sLen + n : Nat) : Int) ≤ 9223372036854775807) (h48 : n * i.bytes ≤ 281474976710656) (hfit : Builtin.nextslicecap (sLen + n) sCap * i.bytes ≤ 281474976710656) :
    (Builtin.append_ #[t, tn] ty #[.slice base sLen sCap, .int k n]).run P w =
      .ok (.slice (some ⟨w.heap.size, 0, none⟩) (sLen + n) (grownCap w (sLen + n) sCap e)) (w.drew.alloc (.cells (olds.toArray ++ Builtin.zeroCells z.cells n ++ Builtin.zeroCells z.cells (grownCap w (sLen + n) sCap e - (sLen + n))) e)) := by
  have hn : n ≠ 0 := by omega
  have hnn : ¬ (sLen + n ≤ sCap) := by omega
  have hw : IntKind.i64.wrap (n : Int) = n := by rw [IntKind.wrap_i64]; omega
  have h63' : ¬ (9223372036854775807 < ((sLen : Int) + (n : Int))) := by omega
  have h63'' : ¬ (9223372036854775807 < (n : Int)) := by omega
  have h48' : ¬ (281474976710656 < Builtin.nextslicecap (sLen + n) sCap * i.bytes) := by omega
  have h48i : ¬ (281474976710656 < (n : Int) * (i.bytes : Int)) := by
    rw [← Int.natCast_mul]
    omega
  have hneg : ¬ ((n : Int) < 0) := by omega
  have hns : ¬ (n * i.size = 0) := Nat.mul_ne_zero hn (by omega)
  simp [Builtin.append_, run_underlying ht, run_underlying htn, sizeOf, typeInfo, zeroValue, hi, hz, asInt, asIntOf, hw, hn, hnn, hneg, hns, h63', h63'', h48', h48i, Question.forced, hold, newRow, grownCap]
end
/-- one tile put in at place i -/
def insL (L : List Pl) (i : Nat) (e : Pl) : List Pl := L.take i ++ e :: L.drop i
theorem plCells_app (l m : List Pl) : plCells (l ++ m) = plCells l ++ plCells m := by
  induction l with
  | nil => rfl
  | cons a l ih => simp [plCells, ih]
theorem plCells_take (l : List Pl) (i : Nat) : plCells (l.take i) = (plCells l).take (i * 3) := by
  induction l generalizing i with
  | nil => simp [plCells]
  | cons a l ih =>
    cases i with
    | zero => simp [plCells]
    | succ i => rw [show (i + 1) * 3 = i * 3 + 3 by omega]; simp [plCells, ih]
theorem plCells_drop (l : List Pl) (i : Nat) : plCells (l.drop i) = (plCells l).drop (i * 3) := by
  induction l generalizing i with
  | nil => simp [plCells]
  | cons a l ih =>
    cases i with
    | zero => simp [plCells]
    | succ i => rw [show (i + 1) * 3 = i * 3 + 3 by omega]; simp [plCells, ih]
theorem insL_cells (L : List Pl) (i : Nat) (e : Pl) : plCells (insL L i e) = (plCells L).take (i * 3) ++ ([.int .i64 e.x, .int .i64 e.y, .int .i64 e.t] ++ (plCells L).drop (i * 3)) := by
  unfold insL
  rw [plCells_app, plCells, plCells_take, plCells_drop]; rfl
theorem insL_len {L : List Pl} {i : Nat} {e : Pl} : (insL L i e).length = L.length + 1 := by
  unfold insL
  rw [List.length_append, List.length_cons, List.length_take, List.length_drop]
  omega
theorem insL_end (L : List Pl) (e : Pl) : insL L L.length e = L ++ [e] := by
  unfold insL; simp
def InsRes (base : Nat) (w : World) (v : Value) (Z : List Pl) (e : Ending) (w' : World) : Prop :=
  ∃ v', e = .returned v' ∧ w'.ownsRow base 38 3 v' Z.length (plCells Z) ∧ w.grownBy w' v.ownBlock
end Go.Proofs.Ytpnahobgmemdjaa
/- Walks: the reference puts a tile into an assembly. -/





namespace Go.Proofs.Ytpnahobgmemdjaa
open Go.RowKit Go.Shelf
attribute [local go_sem] BelowBy.cell BelowBy.cell_drew stillUpon givesUpon BelowBy.cell_drew2 BelowBy.cell_drew3

/-- what has been laid when i tiles have been looked at -/
def putR (ys : List Pl) (e : Pl) (j0 i : Nat) : List Pl := if j0 < i then insL (ys.take i) j0 e else ys.take i
theorem putR_lt {ys : List Pl} {e d : Pl} {j0 i : Nat} (h : i < j0) (hd : ys[i]? = some d) : putR ys e j0 (i + 1) = putR ys e j0 i ++ [d] := by
  obtain ⟨hi, rfl⟩ := List.getElem?_eq_some_iff.1 hd
  unfold putR
  rw [if_neg (by omega), if_neg (by omega), List.take_succ_eq_append_getElem hi]
theorem putR_eq {ys : List Pl} {e d : Pl} {j0 : Nat} (hd : ys[j0]? = some d) : putR ys e j0 (j0 + 1) = (putR ys e j0 j0 ++ [e]) ++ [d] := by
  obtain ⟨hi, rfl⟩ := List.getElem?_eq_some_iff.1 hd
  unfold putR insL
  rw [if_pos (by omega), if_neg (by omega), List.take_take, List.drop_take]
  have h1 : min j0 (j0 + 1) = j0 := by omega
  have h2 : j0 + 1 - j0 = 1 := by omega
  rw [h1, h2, show (ys.drop j0).take 1 = [ys[j0]] by rw [List.drop_eq_getElem_cons hi]; rfl]
  simp
theorem putR_gt {ys : List Pl} {e d : Pl} {j0 i : Nat} (h : j0 < i) (hd : ys[i]? = some d) : putR ys e j0 (i + 1) = putR ys e j0 i ++ [d] := by
  obtain ⟨hi, rfl⟩ := List.getElem?_eq_some_iff.1 hd
  unfold putR insL
  rw [if_pos (by omega), if_pos h, List.take_take, List.take_take, List.drop_take, List.drop_take]
  have h1 : min j0 (i + 1) = j0 := by omega
  have h2 : min j0 i = j0 := by omega
  have h3 : i + 1 - j0 = (i - j0) + 1 := by omega
  rw [h1, h2, h3, List.take_succ_eq_append_getElem (by simp; omega)]
  simp only [List.getElem_drop, List.append_assoc, List.cons_append]
  have h4 : j0 + (i - j0) = i := by omega
  simp only [h4]
theorem putR_end {ys : List Pl} {e : Pl} {j0 : Nat} (h : j0 < ys.length) : putR ys e j0 ys.length = insL ys j0 e := by
  unfold putR; rw [if_pos h, List.take_length]
theorem putR_end2 {ys : List Pl} {e : Pl} {j0 : Nat} (h : j0 = ys.length) : putR ys e j0 ys.length ++ [e] = insL ys j0 e := by
  subst h; unfold putR; rw [if_neg (by omega), List.take_length, insL_end]
theorem putR_len {ys : List Pl} {e : Pl} {j0 i : Nat} (h : i ≤ ys.length) : (putR ys e j0 i).length = if j0 < i then i + 1 else i := by
  unfold putR
  split
  · rw [insL_len, List.length_take]; omega
  · rw [List.length_take]; omega
theorem cell_three_newA (w : World) (a b c : Value) (t : TypeId) : ∀ j u, [a, b, c][j]? = some u → (w.alloc (Obj.cells #[a, b, c] t)).cell? ((⟨w.heap.size, 0, none⟩ : Addr).add j) = some u := by
  intro j u hj
  match j, hj with
  | 0, hj => simp at hj; subst hj; simp [Addr.add]
  | 1, hj => simp at hj; subst hj; simp [Addr.add]
  | 2, hj => simp at hj; subst hj; simp [Addr.add]
  | j + 3, hj => simp at hj
theorem ownsRow_lowA {w : World} {base base' : Nat} {e : TypeId} {size : Nat} {v : Value} {n : Nat} {xs : List Value} (h : w.ownsRow base e size v n xs) (hb : base' ≤ base) : w.ownsRow base' e size v n xs :=
  ⟨h.1, h.2.imp id (fun ⟨g, cap, cur, h1, h2, h3⟩ => ⟨g, cap, cur, h1, Nat.le_trans hb h2, h3⟩)⟩
theorem ownsRow_setLowA {w : World} {base : Nat} {e : TypeId} {size : Nat} {v : Value} {n : Nat} {xs : List Value} (h : w.ownsRow base e size v n xs) {p : Addr} (hp : p.block < base) (x : Value) : (w.setCell p x).ownsRow base e size v n xs := by
  refine h.kept (row := some p.block) ⟨rfl, rfl, rfl, by simp, fun k hk hne => Below.heap_setCell _ _ _ _ (fun e => hne (by rw [e]))⟩ ?_
  cases hb : v.ownBlock with
  | none => exact .inl rfl
  | some g => exact .inr fun e' => by have := (h.lt g hb).1; injection e'; omega
set_option maxRecDepth 100000 in
set_option maxHeartbeats 8000000 in
theorem l03Put_any {op : Nat} (p : Nat) (gs : List Gl) (ts : List Ti) (ys : List Pl) (x y t : Int) (j0 : Nat) (w : World) (ha : AsmAt w p op ys) (hn : ys.length ≤ 100000) (hj : j0 ≤ ys.length) (hlo : ∀ (k : Nat) (d : Pl), k < j0 → ys[k]? = some d → lessPt x y d.x d.y = false) (hhi : ∀ (d : Pl), ys[j0]? = some d → lessPt x y d.x d.y = true) :
    Calls Try.prog 65 #[.pointer (some ⟨p, op, none⟩), .agg #[.int .i64 x, .int .i64 y], .int .i64 t] w fun e w' => ∃ v, e = .returned (.agg #[v]) ∧ w'.ownsRow w.heap.size 38 3 v (insL ys j0 ⟨x, y, t⟩).length (plCells (insL ys j0 ⟨x, y, t⟩)) ∧ Below w.heap.size w w' := by
  obtain ⟨i0, hi0, hz0, hz1, hz2⟩ := info_parts infoPl
  obtain ⟨hlt, A, q, ca, c1, rda⟩ := id ha
  have hlq := rda.len
  have hq : q ≤ 100000 := by omega
  have rdaH := Lib.hid rda
  have c1H := Lib.hid c1
  have hlqH := Lib.hid hlq
  have hloH := Lib.hid hlo
  have hhiH := Lib.hid hhi
  obtain ⟨e0, he0⟩ : ∃ e : Pl, e = ⟨x, y, t⟩ := ⟨_, rfl⟩
  have he0H := Lib.hid he0
  rw [← he0]
  have hj2 : j0 ≤ q := by omega
  clear ha rda c1 hlq hlo hhi he0 hj
  go_enter Try.func65, Try.ntmps65
  go_wp2_with fail
  go_loopg [9, 8] q (fun r a d wr => ∃ (i N : Nat) (b : Bool) (A3 : Option Addr) (c3 : Nat), i + r = q ∧ a = .int .i64 (i : Int) ∧ d = .bool b ∧ Hid (b = decide (j0 < i)) ∧ Hid (N = (putR ys e0 j0 i).length) ∧ N ≤ i + 1 ∧ Hid (wr.ownsRow (w.heap.size + 3) 38 3 (.slice A3 N c3) N (plCells (putR ys e0 j0 i))) ∧ Hid (Below w.heap.size w wr) ∧ w.heap.size + 1 + 1 < wr.heap.size ∧ wr.cell? ⟨w.heap.size + 1 + 1, 0, none⟩ = some (.slice A3 N c3) ∧ wr.frozen? ⟨w.heap.size + 1 + 1, 0, none⟩ = false ∧ wr.cell? ⟨w.heap.size + 1, 0, none⟩ = some (.slice none 0 0) ∧ wr.frozen? ⟨w.heap.size + 1, 0, none⟩ = false ∧ wr.cell? ⟨w.heap.size, 0, none⟩ = some (.int .i64 x) ∧ wr.cell? ⟨w.heap.size, 1, none⟩ = some (.int .i64 y))
  case atStart => exact ⟨0, 0, false, none, 0, by omega, rfl, rfl, Lib.hid (by simp), Lib.hid (by simp [putR]), by omega, Lib.hid (by rw [show putR ys e0 j0 0 = [] by simp [putR]]; exact World.ownsRow_nil _ _ _ _), Lib.hid (by exact bel_), by simp, by go_simp, by go_simp, by go_simp, by go_simp, by go_simp, by go_simp⟩
  case round =>
    obtain ⟨i, N, b, A3, c3, hr, rfl, rfl, hb, hN, hN1, hO, hbw, hsz, d0, df, r0, rf, p0, p1⟩ := hrel
    have hsw := hbw.out.size
    have a1 := (hbw.out.cell (p := ⟨p, op, none⟩) hlt).trans c1H.out
    have l1 : p < wr.heap.size := Nat.lt_of_lt_of_le hlt hsw
    have l0 : w.heap.size < wr.heap.size := by omega
    have l2 : w.heap.size + 1 < wr.heap.size := by omega
    by_cases hiq : i < q
    · obtain ⟨d, hd⟩ : ∃ d, ys[i]? = some d := ⟨_, List.getElem?_eq_getElem (by have := hlqH.out; omega)⟩
      obtain ⟨bA, oA, rfl, hbA0, hcA⟩ := rdaH.out.ptr (by omega)
      obtain ⟨g0, g1, g2⟩ := hcA i d hd
      replace g0 := (hbw.out.cell (p := ⟨bA, oA + i * 3, none⟩) hbA0).trans g0
      replace g1 := (hbw.out.cell (p := ⟨bA, oA + i * 3 + 1, none⟩) hbA0).trans g1
      replace g2 := (hbw.out.cell (p := ⟨bA, oA + i * 3 + 2, none⟩) hbA0).trans g2
      have hbA : bA < wr.heap.size := Nat.lt_of_lt_of_le hbA0 hsw
      have hdH := Lib.hid hd
      clear hcA hd
      rcases Nat.lt_trichotomy i j0 with hij | hij | hij
      · obtain rfl : false = b := by rw [hb.out]; exact (decide_eq_false (by omega)).symm
        have hl0 := Lib.hid (hloH.out i d hij hdH.out)
        have hnx := Lib.hid (putR_lt (e := e0) hij hdH.out)
        go_wp2_with fail
        refine wp_region_ord [(0, .q), (1, .q), (2, .q), (3, .q), (4, .q), (5, .q), (6, .q), (7, .q), (8, .q), (9, .q), (10, .q), (11, .q), (12, .g), (13, .q)] (by kernel_rfl) (by kernel_rfl) ?_
        simp only [pick, List.filterMap_cons, List.filterMap_nil, List.getElem?_toArray, List.getElem?_cons_zero, List.getElem?_cons_succ, Option.map_some]
        repeat (first
          | ((with_reducible refine wpD_p (fun K hK => ?_)); go_simp; refine hK _ ?_; clear hK K)
          | ((with_reducible refine wpD_q (fun K hK => ?_)); go_simp; (first | refine hK _ ?_ | (go_bits; refine hK _ ?_) | (go_bits; go_simp; refine hK _ ?_)); clear hK K)
          | ((with_reducible refine wpD_g (fun K hK => ?_)); go_simp; refine hK _ _ ?_; clear hK K)
          | ((with_reducible refine wpD_g (fun K hK => ?_)); go_simp; refine ⟨Grew.of_alloc _, hK _ _ ?_⟩; clear hK K)
          | ((with_reducible refine wpD_g (fun K hK => ?_)); go_simp; refine ⟨Below.refl _ _, hK _ _ ?_⟩; clear hK K)
          | ((with_reducible refine wpD_g (fun K hK => ?_)); go_simp; go_at_call 43; refine (sLessPoint_at hl0.out).mono ?_; rintro e w2 ⟨rfl, hbw2⟩; refine ⟨_, rfl, hbw2, hK _ _ ?_⟩; clear hK K; obtain ⟨chbw2, fhbw2, shbw2, thbw2⟩ := bcell hbw2))
        with_reducible refine wpD_nil ?_
        have hB2 : Below wr.heap.size wr w2 := (by exact bel_)
        replace g0 := (hB2.cell (p := ⟨bA, oA + i * 3, none⟩) hbA).trans g0
        replace g1 := (hB2.cell (p := ⟨bA, oA + i * 3 + 1, none⟩) hbA).trans g1
        replace g2 := (hB2.cell (p := ⟨bA, oA + i * 3 + 2, none⟩) hbA).trans g2
        replace hbA := Nat.lt_of_lt_of_le hbA hB2.size
        replace d0 := (hB2.cell (p := ⟨w.heap.size + 1 + 1, 0, none⟩) hsz).trans d0
        replace df := (hB2.frozen (p := ⟨w.heap.size + 1 + 1, 0, none⟩) hsz).trans df
        replace r0 := (hB2.cell (p := ⟨w.heap.size + 1, 0, none⟩) l2).trans r0
        replace rf := (hB2.frozen (p := ⟨w.heap.size + 1, 0, none⟩) l2).trans rf
        replace p0 := (hB2.cell (p := ⟨w.heap.size, 0, none⟩) l0).trans p0
        replace p1 := (hB2.cell (p := ⟨w.heap.size, 1, none⟩) l0).trans p1
        replace a1 := (hB2.cell (p := ⟨p, op, none⟩) l1).trans a1
        replace hO := Lib.hid (ownsRow_below hO.out hB2)
        replace hbw := Lib.hid (hbw.out.trans (hB2.mono hsw))
        replace hsz := Nat.lt_of_lt_of_le hsz hB2.size
        replace l1 := Nat.lt_of_lt_of_le l1 hB2.size
        replace l0 := Nat.lt_of_lt_of_le l0 hB2.size
        replace l2 := Nat.lt_of_lt_of_le l2 hB2.size
        replace hsw := Nat.le_trans hsw hB2.size
        have hsb : w.heap.size + 3 ≤ w2.heap.size := by omega
        clear hB2 hbw2 chbw2 fhbw2 shbw2 thbw2
        go_wp2_with fail
        refine wp_region_ord [(0, .q), (1, .q), (2, .q), (3, .q), (4, .q), (5, .q), (6, .q), (7, .q), (8, .q), (9, .g), (10, .b), (11, .q), (12, .b)] (by kernel_rfl) (by kernel_rfl) ?_
        simp only [pick, List.filterMap_cons, List.filterMap_nil, List.getElem?_toArray, List.getElem?_cons_zero, List.getElem?_cons_succ, Option.map_some]
        repeat (first | ((with_reducible refine wpD_p (fun K hK => ?_)); go_simp; refine hK _ ?_; clear hK K) | ((with_reducible refine wpD_q (fun K hK => ?_)); go_simp; (first | refine hK _ ?_ | (go_bits; refine hK _ ?_) | (go_bits; go_simp; refine hK _ ?_)); clear hK K))
        with_reducible refine wpD_g (fun K hK => ?_)
        go_simp
        refine ⟨Grew.of_alloc _, hK _ _ ?_⟩
        clear hK K
        have hb5 : Hid (Below w2.heap.size w2 (w2.alloc (Obj.cells #[.int .i64 d.x, .int .i64 d.y, .int .i64 d.t] 38)).drew) := Lib.hid (by exact bel_)
        refine wpD_append rfl _ _ 24 rfl (w.heap.size + 3) 38 i0 (.agg #[.int .i64 0, .int .i64 0, .int .i64 0]) 3 24 Try.underlying24 hi0 hz0 hz1 hz2 rfl (by decide) _ N (plCells (putR ys e0 j0 i)) (by go_simp) (ownsRow_below hO.out hb5.out) ⟨w2.heap.size, 0, none⟩ 1 1 [.int .i64 d.x, .int .i64 d.y, .int .i64 d.t] (by go_simp) rfl ?hnews (fun x hx => by simp at hx; rcases hx with rfl | rfl | rfl <;> rfl) (by unfold maxLen; omega) (by omega) (by simp; omega) ?_
        case hnews =>
          have := cell_three_newA w2 (.int .i64 d.x) (.int .i64 d.y) (.int .i64 d.t) 38
          simpa using this
        intro v5 w5 hown hgrow
        obtain ⟨g5, c5, rfl⟩ := ownsRow_succ hown
        have hB5 : Below (w.heap.size + 3) w2 w5 := (hb5.out.mono hsb).grown hgrow (by simp; omega) (fun g e => (hO.out.lt g e).1)
        have hs5 : w.heap.size + 3 ≤ w5.heap.size := Nat.le_trans hsb hB5.size
        replace d0 := (hB5.cell (p := ⟨w.heap.size + 1 + 1, 0, none⟩) (by simp)).trans d0
        replace df := (hB5.frozen (p := ⟨w.heap.size + 1 + 1, 0, none⟩) (by simp)).trans df
        replace r0 := (hB5.cell (p := ⟨w.heap.size + 1, 0, none⟩) (by simp)).trans r0
        replace rf := (hB5.frozen (p := ⟨w.heap.size + 1, 0, none⟩) (by simp)).trans rf
        replace p0 := (hB5.cell (p := ⟨w.heap.size, 0, none⟩) (by simp)).trans p0
        replace p1 := (hB5.cell (p := ⟨w.heap.size, 1, none⟩) (by simp)).trans p1
        have lz : w.heap.size + 1 + 1 < w5.heap.size := by omega
        have hown' : w5.ownsRow (w.heap.size + 3) 38 3 (.slice (some ⟨g5, 0, none⟩) (N + 1) c5) (N + 1) (plCells (putR ys e0 j0 (i + 1))) := by rw [hnx.out, plCells_snoc]; exact hown
        have hO5 := Lib.hid (ownsRow_setLowA (base := w.heap.size + 3) hown' (p := ⟨w.heap.size + 1 + 1, 0, none⟩) (by simp) (.slice (some ⟨g5, 0, none⟩) (N + 1) c5))
        have hbw5 := Lib.hid ((hbw.out.trans (hB5.mono (by omega))).setCell (p := ⟨w.heap.size + 1 + 1, 0, none⟩) (by show w.heap.size ≤ w.heap.size + 1 + 1; omega) (.slice (some ⟨g5, 0, none⟩) (N + 1) c5))
        clear hown hown' hgrow hB5 hb5
        repeat (first | ((with_reducible refine wpD_p (fun K hK => ?_)); go_simp; refine hK _ ?_; clear hK K) | ((with_reducible refine wpD_q (fun K hK => ?_)); go_simp; (first | refine hK _ ?_ | (go_bits; refine hK _ ?_) | (go_bits; go_simp; refine hK _ ?_)); clear hK K))
        with_reducible refine wpD_b (fun K hK => ?_)
        go_simp
        refine hK _ _ ?_
        clear hK K
        with_reducible refine wpD_nil ?_
        go_wp2_with fail
        go_roundg (q - (i + 1))
        case measure => omega
        case rel => exact ⟨i + 1, N + 1, _, _, c5, by omega, by go_num, rfl, Lib.hid (by simp; omega), Lib.hid (by rw [hnx.out, List.length_append, ← hN.out]; rfl), by omega, hO5, hbw5, by go_simp, by go_simp, by go_simp, by go_simp, by go_simp, by go_simp, by go_simp⟩
      · obtain rfl : i = j0 := hij
        obtain rfl : false = b := by rw [hb.out]; exact (decide_eq_false (by omega)).symm
        have hl0 := Lib.hid (hhiH.out d hdH.out)
        have hnx := Lib.hid (putR_eq (e := e0) hdH.out)
        go_wp2_with fail
        refine wp_region_ord [(0, .q), (1, .q), (2, .q), (3, .q), (4, .q), (5, .q), (6, .q), (7, .q), (8, .q), (9, .q), (10, .q), (11, .q), (12, .g), (13, .q)] (by kernel_rfl) (by kernel_rfl) ?_
        simp only [pick, List.filterMap_cons, List.filterMap_nil, List.getElem?_toArray, List.getElem?_cons_zero, List.getElem?_cons_succ, Option.map_some]
        repeat (first
          | ((with_reducible refine wpD_p (fun K hK => ?_)); go_simp; refine hK _ ?_; clear hK K)
          | ((with_reducible refine wpD_q (fun K hK => ?_)); go_simp; (first | refine hK _ ?_ | (go_bits; refine hK _ ?_) | (go_bits; go_simp; refine hK _ ?_)); clear hK K)
          | ((with_reducible refine wpD_g (fun K hK => ?_)); go_simp; refine hK _ _ ?_; clear hK K)
          | ((with_reducible refine wpD_g (fun K hK => ?_)); go_simp; refine ⟨Grew.of_alloc _, hK _ _ ?_⟩; clear hK K)
          | ((with_reducible refine wpD_g (fun K hK => ?_)); go_simp; refine ⟨Below.refl _ _, hK _ _ ?_⟩; clear hK K)
          | ((with_reducible refine wpD_g (fun K hK => ?_)); go_simp; go_at_call 43; refine (sLessPoint_at hl0.out).mono ?_; rintro e w2 ⟨rfl, hbw2⟩; refine ⟨_, rfl, hbw2, hK _ _ ?_⟩; clear hK K; obtain ⟨chbw2, fhbw2, shbw2, thbw2⟩ := bcell hbw2))
        with_reducible refine wpD_nil ?_
        have hB2 : Below wr.heap.size wr w2 := (by exact bel_)
        replace g0 := (hB2.cell (p := ⟨bA, oA + i * 3, none⟩) hbA).trans g0
        replace g1 := (hB2.cell (p := ⟨bA, oA + i * 3 + 1, none⟩) hbA).trans g1
        replace g2 := (hB2.cell (p := ⟨bA, oA + i * 3 + 2, none⟩) hbA).trans g2
        replace hbA := Nat.lt_of_lt_of_le hbA hB2.size
        replace d0 := (hB2.cell (p := ⟨w.heap.size + 1 + 1, 0, none⟩) hsz).trans d0
        replace df := (hB2.frozen (p := ⟨w.heap.size + 1 + 1, 0, none⟩) hsz).trans df
        replace r0 := (hB2.cell (p := ⟨w.heap.size + 1, 0, none⟩) l2).trans r0
        replace rf := (hB2.frozen (p := ⟨w.heap.size + 1, 0, none⟩) l2).trans rf
        replace p0 := (hB2.cell (p := ⟨w.heap.size, 0, none⟩) l0).trans p0
        replace p1 := (hB2.cell (p := ⟨w.heap.size, 1, none⟩) l0).trans p1
        replace a1 := (hB2.cell (p := ⟨p, op, none⟩) l1).trans a1
        replace hO := Lib.hid (ownsRow_below hO.out hB2)
        replace hbw := Lib.hid (hbw.out.trans (hB2.mono hsw))
        replace hsz := Nat.lt_of_lt_of_le hsz hB2.size
        replace l1 := Nat.lt_of_lt_of_le l1 hB2.size
        replace l0 := Nat.lt_of_lt_of_le l0 hB2.size
        replace l2 := Nat.lt_of_lt_of_le l2 hB2.size
        replace hsw := Nat.le_trans hsw hB2.size
        have hsb : w.heap.size + 3 ≤ w2.heap.size := by omega
        clear hB2 hbw2 chbw2 fhbw2 shbw2 thbw2
        have hns : Hid (∀ j u, [Value.int .i64 x, .int .i64 y, .int .i64 t][j]? = some u → (w2.alloc (Obj.cells #[.int .i64 x, .int .i64 y, .int .i64 t] 38)).cell? ((⟨w2.heap.size, 0, none⟩ : Addr).add j) = some u) := Lib.hid (cell_three_newA w2 _ _ _ _)
        go_wp2_with (at_builtin; go_loud (refine wpList_append_own _ rfl _ _ 24 rfl (w.heap.size + 3) 38 i0 (.agg #[.int .i64 0, .int .i64 0, .int .i64 0]) 3 24 Try.underlying24 hi0 hz0 hz1 hz2 rfl (by decide) _ N (plCells (putR ys e0 i i)) rfl (hO.out.alloc _) ⟨w2.heap.size, 0, none⟩ 1 1 [.int .i64 x, .int .i64 y, .int .i64 t] rfl rfl hns.out (fun x hx => by simp at hx; rcases hx with rfl | rfl | rfl <;> rfl) (by unfold maxLen; omega) (by omega) (by simp; omega) ?_); intro v3 w3 hown3 hgrow3 _; obtain ⟨g3, c4, rfl⟩ := ownsRow_succ hown3; have hB3 : Below (w.heap.size + 3) w2 w3 := ((Below.refl _ w2).alloc hsb _).grown hgrow3 (by simp; omega) (fun g e => (hO.out.lt g e).1); have hs3 : w.heap.size + 3 ≤ w3.heap.size := Nat.le_trans hsb hB3.size; have u0 := (hB3.cell (p := ⟨w.heap.size + 1 + 1, 0, none⟩) (by simp)).trans d0; have u1 := (hB3.frozen (p := ⟨w.heap.size + 1 + 1, 0, none⟩) (by simp)).trans df; have u2 := (hB3.cell (p := ⟨w.heap.size + 1, 0, none⟩) (by simp)).trans r0; have u3 := (hB3.frozen (p := ⟨w.heap.size + 1, 0, none⟩) (by simp)).trans rf; have u4 := (hB3.cell (p := ⟨w.heap.size, 0, none⟩) (by simp)).trans p0; have u5 := (hB3.cell (p := ⟨w.heap.size, 1, none⟩) (by simp)).trans p1; have lz3 : w.heap.size + 1 + 1 < w3.heap.size := (by omega))
        replace g0 := (hB3.cell (p := ⟨bA, oA + i * 3, none⟩) (by simp; omega)).trans g0
        replace g1 := (hB3.cell (p := ⟨bA, oA + i * 3 + 1, none⟩) (by simp; omega)).trans g1
        replace g2 := (hB3.cell (p := ⟨bA, oA + i * 3 + 2, none⟩) (by simp; omega)).trans g2
        replace a1 := (hB3.cell (p := ⟨p, op, none⟩) (by simp; omega)).trans a1
        obtain ⟨w4, hw4⟩ : ∃ W, W = w3.setCell ⟨w.heap.size + 1 + 1, 0, none⟩ (.slice (some ⟨g3, 0, none⟩) (N + 1) c4) := ⟨_, rfl⟩
        rw [← hw4]
        have hne1 : ¬ bA = w.heap.size + 1 + 1 := by omega
        have hne2 : ¬ p = w.heap.size + 1 + 1 := by omega
        replace g0 : w4.cell? ⟨bA, oA + i * 3, none⟩ = some (.int .i64 d.x) := by rw [hw4]; exact (World.cell?_setCell_other _ _ _ _ (by simp [hne1])).trans g0
        replace g1 : w4.cell? ⟨bA, oA + i * 3 + 1, none⟩ = some (.int .i64 d.y) := by rw [hw4]; exact (World.cell?_setCell_other _ _ _ _ (by simp [hne1])).trans g1
        replace g2 : w4.cell? ⟨bA, oA + i * 3 + 2, none⟩ = some (.int .i64 d.t) := by rw [hw4]; exact (World.cell?_setCell_other _ _ _ _ (by simp [hne1])).trans g2
        replace a1 : w4.cell? ⟨p, op, none⟩ = some (.slice (some ⟨bA, oA, none⟩) q ca) := by rw [hw4]; exact (World.cell?_setCell_other _ _ _ _ (by simp [hne2])).trans a1
        replace d0 : w4.cell? ⟨w.heap.size + 1 + 1, 0, none⟩ = some (.slice (some ⟨g3, 0, none⟩) (N + 1) c4) := by rw [hw4]; go_simp
        replace df : w4.frozen? ⟨w.heap.size + 1 + 1, 0, none⟩ = false := by rw [hw4]; go_simp
        replace r0 : w4.cell? ⟨w.heap.size + 1, 0, none⟩ = some (.slice none 0 0) := by rw [hw4]; go_simp
        replace rf : w4.frozen? ⟨w.heap.size + 1, 0, none⟩ = false := by rw [hw4]; go_simp
        replace p0 : w4.cell? ⟨w.heap.size, 0, none⟩ = some (.int .i64 x) := by rw [hw4]; go_simp
        replace p1 : w4.cell? ⟨w.heap.size, 1, none⟩ = some (.int .i64 y) := by rw [hw4]; go_simp
        have hs4 : w4.heap.size = w3.heap.size := by rw [hw4]; simp
        have hNi : N ≤ i := by rw [hN.out, putR_len (by have := hlqH.out; omega), if_neg (by omega)]; exact Nat.le_refl _
        have hown4 : w3.ownsRow (w.heap.size + 3) 38 3 (.slice (some ⟨g3, 0, none⟩) (N + 1) c4) (N + 1) (plCells (putR ys e0 i i ++ [e0])) := by rw [plCells_snoc, he0H.out]; rw [he0H.out] at hown3; exact hown3
        replace hO := Lib.hid (show w4.ownsRow (w.heap.size + 3) 38 3 (.slice (some ⟨g3, 0, none⟩) (N + 1) c4) (N + 1) (plCells (putR ys e0 i i ++ [e0])) from by rw [hw4]; exact ownsRow_setLowA hown4 (p := ⟨w.heap.size + 1 + 1, 0, none⟩) (by simp) _)
        replace hbw := Lib.hid (show Below w.heap.size w w4 from by rw [hw4]; exact (hbw.out.trans (hB3.mono (by omega))).setCell (p := ⟨w.heap.size + 1 + 1, 0, none⟩) (by show w.heap.size ≤ w.heap.size + 1 + 1; omega) _)
        replace hbA : bA < w4.heap.size := by omega
        replace hsz : w.heap.size + 1 + 1 < w4.heap.size := by omega
        replace l0 : w.heap.size < w4.heap.size := by omega
        replace l1 : p < w4.heap.size := by omega
        replace l2 : w.heap.size + 1 < w4.heap.size := by omega
        replace hsb : w.heap.size + 3 ≤ w4.heap.size := by omega
        clear hown3 hgrow3 hB3 hw4 hs3 hs4 u0 u1 u2 u3 u4 u5 lz3 hown4 hns hne1 hne2
        go_wp2_with fail
        refine wp_region_ord [(0, .q), (1, .q), (2, .q), (3, .q), (4, .q), (5, .q), (6, .q), (7, .q), (8, .q), (9, .g), (10, .b), (11, .q), (12, .b)] (by kernel_rfl) (by kernel_rfl) ?_
        simp only [pick, List.filterMap_cons, List.filterMap_nil, List.getElem?_toArray, List.getElem?_cons_zero, List.getElem?_cons_succ, Option.map_some]
        repeat (first | ((with_reducible refine wpD_p (fun K hK => ?_)); go_simp; refine hK _ ?_; clear hK K) | ((with_reducible refine wpD_q (fun K hK => ?_)); go_simp; (first | refine hK _ ?_ | (go_bits; refine hK _ ?_) | (go_bits; go_simp; refine hK _ ?_)); clear hK K))
        with_reducible refine wpD_g (fun K hK => ?_)
        go_simp
        refine ⟨Grew.of_alloc _, hK _ _ ?_⟩
        clear hK K
        have hb5 : Hid (Below w4.heap.size w4 (w4.alloc (Obj.cells #[.int .i64 d.x, .int .i64 d.y, .int .i64 d.t] 38)).drew) := Lib.hid (by exact bel_)
        refine wpD_append rfl _ _ 24 rfl (w.heap.size + 3) 38 i0 (.agg #[.int .i64 0, .int .i64 0, .int .i64 0]) 3 24 Try.underlying24 hi0 hz0 hz1 hz2 rfl (by decide) _ (N + 1) (plCells (putR ys e0 i i ++ [e0])) (by go_simp) (ownsRow_below hO.out hb5.out) ⟨w4.heap.size, 0, none⟩ 1 1 [.int .i64 d.x, .int .i64 d.y, .int .i64 d.t] (by go_simp) rfl ?hnews (fun x hx => by simp at hx; rcases hx with rfl | rfl | rfl <;> rfl) (by unfold maxLen; omega) (by omega) (by simp; omega) ?_
        case hnews =>
          have := cell_three_newA w4 (.int .i64 d.x) (.int .i64 d.y) (.int .i64 d.t) 38
          simpa using this
        intro v5 w5 hown hgrow
        obtain ⟨g5, c5, rfl⟩ := ownsRow_succ hown
        have hB5 : Below (w.heap.size + 3) w4 w5 := (hb5.out.mono hsb).grown hgrow (by simp; omega) (fun g e => (hO.out.lt g e).1)
        have hs5 : w.heap.size + 3 ≤ w5.heap.size := Nat.le_trans hsb hB5.size
        replace d0 := (hB5.cell (p := ⟨w.heap.size + 1 + 1, 0, none⟩) (by simp)).trans d0
        replace df := (hB5.frozen (p := ⟨w.heap.size + 1 + 1, 0, none⟩) (by simp)).trans df
        replace r0 := (hB5.cell (p := ⟨w.heap.size + 1, 0, none⟩) (by simp)).trans r0
        replace rf := (hB5.frozen (p := ⟨w.heap.size + 1, 0, none⟩) (by simp)).trans rf
        replace p0 := (hB5.cell (p := ⟨w.heap.size, 0, none⟩) (by simp)).trans p0
        replace p1 := (hB5.cell (p := ⟨w.heap.size, 1, none⟩) (by simp)).trans p1
        have lz : w.heap.size + 1 + 1 < w5.heap.size := by omega
        have hown' : w5.ownsRow (w.heap.size + 3) 38 3 (.slice (some ⟨g5, 0, none⟩) ((N + 1) + 1) c5) ((N + 1) + 1) (plCells (putR ys e0 i (i + 1))) := by rw [hnx.out, plCells_snoc]; exact hown
        have hO5 := Lib.hid (ownsRow_setLowA (base := w.heap.size + 3) hown' (p := ⟨w.heap.size + 1 + 1, 0, none⟩) (by simp) (.slice (some ⟨g5, 0, none⟩) ((N + 1) + 1) c5))
        have hbw5 := Lib.hid ((hbw.out.trans (hB5.mono (by omega))).setCell (p := ⟨w.heap.size + 1 + 1, 0, none⟩) (by show w.heap.size ≤ w.heap.size + 1 + 1; omega) (.slice (some ⟨g5, 0, none⟩) ((N + 1) + 1) c5))
        clear hown hown' hgrow hB5 hb5
        repeat (first | ((with_reducible refine wpD_p (fun K hK => ?_)); go_simp; refine hK _ ?_; clear hK K) | ((with_reducible refine wpD_q (fun K hK => ?_)); go_simp; (first | refine hK _ ?_ | (go_bits; refine hK _ ?_) | (go_bits; go_simp; refine hK _ ?_)); clear hK K))
        with_reducible refine wpD_b (fun K hK => ?_)
        go_simp
        refine hK _ _ ?_
        clear hK K
        with_reducible refine wpD_nil ?_
        go_wp2_with fail
        go_roundg (q - (i + 1))
        case measure => omega
        case rel => exact ⟨i + 1, (N + 1) + 1, _, _, c5, by omega, by go_num, rfl, Lib.hid (by simp), Lib.hid (by rw [hnx.out, List.length_append, List.length_append, ← hN.out]; rfl), by omega, hO5, hbw5, by go_simp, by go_simp, by go_simp, by go_simp, by go_simp, by go_simp, by go_simp⟩
      · obtain rfl : true = b := by rw [hb.out]; exact (decide_eq_true (by omega)).symm
        have hnx := Lib.hid (putR_gt (e := e0) hij hdH.out)
        go_wp2_with fail
        refine wp_region_ord [(0, .q), (1, .q), (2, .q), (3, .q), (4, .q), (5, .q), (6, .q), (7, .q), (8, .q), (9, .q), (10, .q), (11, .q), (12, .g), (13, .q)] (by kernel_rfl) (by kernel_rfl) ?_
        simp only [pick, List.filterMap_cons, List.filterMap_nil, List.getElem?_toArray, List.getElem?_cons_zero, List.getElem?_cons_succ, Option.map_some]
        repeat (first
          | ((with_reducible refine wpD_p (fun K hK => ?_)); go_simp; refine hK _ ?_; clear hK K)
          | ((with_reducible refine wpD_q (fun K hK => ?_)); go_simp; (first | refine hK _ ?_ | (go_bits; refine hK _ ?_) | (go_bits; go_simp; refine hK _ ?_)); clear hK K)
          | ((with_reducible refine wpD_g (fun K hK => ?_)); go_simp; refine hK _ _ ?_; clear hK K)
          | ((with_reducible refine wpD_g (fun K hK => ?_)); go_simp; refine ⟨Grew.of_alloc _, hK _ _ ?_⟩; clear hK K)
          | ((with_reducible refine wpD_g (fun K hK => ?_)); go_simp; refine ⟨Below.refl _ _, hK _ _ ?_⟩; clear hK K))
        with_reducible refine wpD_nil ?_
        obtain ⟨w2, hw2⟩ : ∃ W, W = wr.drew := ⟨_, rfl⟩
        rw [← hw2]
        have hB2 : Below wr.heap.size wr w2 := (by rw [hw2]; exact Below.drew (Below.refl _ _))
        replace g0 := (hB2.cell (p := ⟨bA, oA + i * 3, none⟩) hbA).trans g0
        replace g1 := (hB2.cell (p := ⟨bA, oA + i * 3 + 1, none⟩) hbA).trans g1
        replace g2 := (hB2.cell (p := ⟨bA, oA + i * 3 + 2, none⟩) hbA).trans g2
        replace hbA := Nat.lt_of_lt_of_le hbA hB2.size
        replace d0 := (hB2.cell (p := ⟨w.heap.size + 1 + 1, 0, none⟩) hsz).trans d0
        replace df := (hB2.frozen (p := ⟨w.heap.size + 1 + 1, 0, none⟩) hsz).trans df
        replace r0 := (hB2.cell (p := ⟨w.heap.size + 1, 0, none⟩) l2).trans r0
        replace rf := (hB2.frozen (p := ⟨w.heap.size + 1, 0, none⟩) l2).trans rf
        replace p0 := (hB2.cell (p := ⟨w.heap.size, 0, none⟩) l0).trans p0
        replace p1 := (hB2.cell (p := ⟨w.heap.size, 1, none⟩) l0).trans p1
        replace a1 := (hB2.cell (p := ⟨p, op, none⟩) l1).trans a1
        replace hO := Lib.hid (ownsRow_below hO.out hB2)
        replace hbw := Lib.hid (hbw.out.trans (hB2.mono hsw))
        replace hsz := Nat.lt_of_lt_of_le hsz hB2.size
        replace l1 := Nat.lt_of_lt_of_le l1 hB2.size
        replace l0 := Nat.lt_of_lt_of_le l0 hB2.size
        replace l2 := Nat.lt_of_lt_of_le l2 hB2.size
        replace hsw := Nat.le_trans hsw hB2.size
        have hsb : w.heap.size + 3 ≤ w2.heap.size := by omega
        clear hB2 hw2
        go_wp2_with fail
        refine wp_region_ord [(0, .q), (1, .q), (2, .q), (3, .q), (4, .q), (5, .q), (6, .q), (7, .q), (8, .q), (9, .g), (10, .b), (11, .q), (12, .b)] (by kernel_rfl) (by kernel_rfl) ?_
        simp only [pick, List.filterMap_cons, List.filterMap_nil, List.getElem?_toArray, List.getElem?_cons_zero, List.getElem?_cons_succ, Option.map_some]
        repeat (first | ((with_reducible refine wpD_p (fun K hK => ?_)); go_simp; refine hK _ ?_; clear hK K) | ((with_reducible refine wpD_q (fun K hK => ?_)); go_simp; (first | refine hK _ ?_ | (go_bits; refine hK _ ?_) | (go_bits; go_simp; refine hK _ ?_)); clear hK K))
        with_reducible refine wpD_g (fun K hK => ?_)
        go_simp
        refine ⟨Grew.of_alloc _, hK _ _ ?_⟩
        clear hK K
        have hb5 : Hid (Below w2.heap.size w2 (w2.alloc (Obj.cells #[.int .i64 d.x, .int .i64 d.y, .int .i64 d.t] 38)).drew) := Lib.hid (by exact bel_)
        refine wpD_append rfl _ _ 24 rfl (w.heap.size + 3) 38 i0 (.agg #[.int .i64 0, .int .i64 0, .int .i64 0]) 3 24 Try.underlying24 hi0 hz0 hz1 hz2 rfl (by decide) _ N (plCells (putR ys e0 j0 i)) (by go_simp) (ownsRow_below hO.out hb5.out) ⟨w2.heap.size, 0, none⟩ 1 1 [.int .i64 d.x, .int .i64 d.y, .int .i64 d.t] (by go_simp) rfl ?hnews (fun x hx => by simp at hx; rcases hx with rfl | rfl | rfl <;> rfl) (by unfold maxLen; omega) (by omega) (by simp; omega) ?_
        case hnews =>
          have := cell_three_newA w2 (.int .i64 d.x) (.int .i64 d.y) (.int .i64 d.t) 38
          simpa using this
        intro v5 w5 hown hgrow
        obtain ⟨g5, c5, rfl⟩ := ownsRow_succ hown
        have hB5 : Below (w.heap.size + 3) w2 w5 := (hb5.out.mono hsb).grown hgrow (by simp; omega) (fun g e => (hO.out.lt g e).1)
        have hs5 : w.heap.size + 3 ≤ w5.heap.size := Nat.le_trans hsb hB5.size
        replace d0 := (hB5.cell (p := ⟨w.heap.size + 1 + 1, 0, none⟩) (by simp)).trans d0
        replace df := (hB5.frozen (p := ⟨w.heap.size + 1 + 1, 0, none⟩) (by simp)).trans df
        replace r0 := (hB5.cell (p := ⟨w.heap.size + 1, 0, none⟩) (by simp)).trans r0
        replace rf := (hB5.frozen (p := ⟨w.heap.size + 1, 0, none⟩) (by simp)).trans rf
        replace p0 := (hB5.cell (p := ⟨w.heap.size, 0, none⟩) (by simp)).trans p0
        replace p1 := (hB5.cell (p := ⟨w.heap.size, 1, none⟩) (by simp)).trans p1
        have lz : w.heap.size + 1 + 1 < w5.heap.size := by omega
        have hown' : w5.ownsRow (w.heap.size + 3) 38 3 (.slice (some ⟨g5, 0, none⟩) (N + 1) c5) (N + 1) (plCells (putR ys e0 j0 (i + 1))) := by rw [hnx.out, plCells_snoc]; exact hown
        have hO5 := Lib.hid (ownsRow_setLowA (base := w.heap.size + 3) hown' (p := ⟨w.heap.size + 1 + 1, 0, none⟩) (by simp) (.slice (some ⟨g5, 0, none⟩) (N + 1) c5))
        have hbw5 := Lib.hid ((hbw.out.trans (hB5.mono (by omega))).setCell (p := ⟨w.heap.size + 1 + 1, 0, none⟩) (by show w.heap.size ≤ w.heap.size + 1 + 1; omega) (.slice (some ⟨g5, 0, none⟩) (N + 1) c5))
        clear hown hown' hgrow hB5 hb5
        repeat (first | ((with_reducible refine wpD_p (fun K hK => ?_)); go_simp; refine hK _ ?_; clear hK K) | ((with_reducible refine wpD_q (fun K hK => ?_)); go_simp; (first | refine hK _ ?_ | (go_bits; refine hK _ ?_) | (go_bits; go_simp; refine hK _ ?_)); clear hK K))
        with_reducible refine wpD_b (fun K hK => ?_)
        go_simp
        refine hK _ _ ?_
        clear hK K
        with_reducible refine wpD_nil ?_
        go_wp2_with fail
        go_roundg (q - (i + 1))
        case measure => omega
        case rel => exact ⟨i + 1, N + 1, _, _, c5, by omega, by go_num, rfl, Lib.hid (by simp; omega), Lib.hid (by rw [hnx.out, List.length_append, ← hN.out]; rfl), by omega, hO5, hbw5, by go_simp, by go_simp, by go_simp, by go_simp, by go_simp, by go_simp, by go_simp⟩
    · obtain rfl : q = i := by omega
      have hend := hlqH.out
      by_cases hjq : j0 < q
      · obtain rfl : true = b := by rw [hb.out]; exact (decide_eq_true hjq).symm
        have hfin := putR_end (ys := ys) (e := e0) (j0 := j0) (by omega)
        rw [hend] at hfin
        have hfinH := Lib.hid hfin
        clear hfin
        go_wp2_with fail
        refine bodyPost_ret (v := .agg #[.slice A3 N c3]) (by simp only [results, Try.results65]; go_simp) rfl ?_
        refine ⟨_, rfl, ?_, hbw.out.setCell (p := ⟨w.heap.size + 1, 0, none⟩) (by show w.heap.size ≤ w.heap.size + 1; omega) _⟩
        rw [← hfinH.out, ← hN.out]
        exact ownsRow_lowA (ownsRow_setLowA hO.out (p := ⟨w.heap.size + 1, 0, none⟩) (by simp) _) (by omega)
      · obtain rfl : false = b := by rw [hb.out]; exact (decide_eq_false hjq).symm
        have hfin := putR_end2 (ys := ys) (e := e0) (j0 := j0) (by omega)
        rw [hend] at hfin
        have hfinH := Lib.hid hfin
        clear hfin
        have hsb : w.heap.size + 3 ≤ wr.heap.size := by omega
        have hns : Hid (∀ j u, [Value.int .i64 x, .int .i64 y, .int .i64 t][j]? = some u → (wr.alloc (Obj.cells #[.int .i64 x, .int .i64 y, .int .i64 t] 38)).cell? ((⟨wr.heap.size, 0, none⟩ : Addr).add j) = some u) := Lib.hid (cell_three_newA wr _ _ _ _)
        go_wp2_with (at_builtin; go_loud (refine wpList_append_own _ rfl _ _ 24 rfl (w.heap.size + 3) 38 i0 (.agg #[.int .i64 0, .int .i64 0, .int .i64 0]) 3 24 Try.underlying24 hi0 hz0 hz1 hz2 rfl (by decide) _ N (plCells (putR ys e0 j0 q)) rfl (hO.out.alloc _) ⟨wr.heap.size, 0, none⟩ 1 1 [.int .i64 x, .int .i64 y, .int .i64 t] rfl rfl hns.out (fun x hx => by simp at hx; rcases hx with rfl | rfl | rfl <;> rfl) (by unfold maxLen; omega) (by omega) (by simp; omega) ?_); intro v3 w3 hown3 hgrow3 _; obtain ⟨g3, c4, rfl⟩ := ownsRow_succ hown3; have hB3 : Below (w.heap.size + 3) wr w3 := ((Below.refl _ wr).alloc hsb _).grown hgrow3 (by simp; omega) (fun g e => (hO.out.lt g e).1); have hs3 : w.heap.size + 3 ≤ w3.heap.size := Nat.le_trans hsb hB3.size; have u0 := (hB3.cell (p := ⟨w.heap.size + 1 + 1, 0, none⟩) (by simp)).trans d0; have u1 := (hB3.frozen (p := ⟨w.heap.size + 1 + 1, 0, none⟩) (by simp)).trans df; have u2 := (hB3.cell (p := ⟨w.heap.size + 1, 0, none⟩) (by simp)).trans r0; have u3 := (hB3.frozen (p := ⟨w.heap.size + 1, 0, none⟩) (by simp)).trans rf; have u4 := (hB3.cell (p := ⟨w.heap.size, 0, none⟩) (by simp)).trans p0; have u5 := (hB3.cell (p := ⟨w.heap.size, 1, none⟩) (by simp)).trans p1; have lz3 : w.heap.size + 1 + 1 < w3.heap.size := (by omega); have lz4 : w.heap.size + 1 < w3.heap.size := (by omega))
        refine bodyPost_ret (v := .agg #[.slice (some ⟨g3, 0, none⟩) (N + 1) c4]) (by simp only [results, Try.results65]; go_simp) rfl ?_
        refine ⟨_, rfl, ?_, ((hbw.out.trans (hB3.mono (by omega))).setCell (p := ⟨w.heap.size + 1 + 1, 0, none⟩) (by show w.heap.size ≤ w.heap.size + 1 + 1; omega) _).setCell (p := ⟨w.heap.size + 1, 0, none⟩) (by show w.heap.size ≤ w.heap.size + 1; omega) _⟩
        have hown4 : w3.ownsRow (w.heap.size + 3) 38 3 (.slice (some ⟨g3, 0, none⟩) (N + 1) c4) (N + 1) (plCells (putR ys e0 j0 q ++ [e0])) := by rw [plCells_snoc, he0H.out]; rw [he0H.out] at hown3; exact hown3
        rw [← hfinH.out, List.length_append, ← hN.out]
        exact ownsRow_lowA (ownsRow_setLowA (ownsRow_setLowA hown4 (p := ⟨w.heap.size + 1 + 1, 0, none⟩) (by simp) _) (p := ⟨w.heap.size + 1, 0, none⟩) (by simp) _) (by omega)
end Go.Proofs.Ytpnahobgmemdjaa
