import Derived.Test.YtpnahobgmemdjaaGAN
import Derived.Test.YtpnahobgmemdjaaGBA
import Derived.Lib.Walk
import Derived.Lib.AppendZeros
import Derived.Lib.Overlaps
import Derived.Laws.Externs
import Derived.Laws.IdiomCopy
import Derived.Deep.AppendSrc
import Derived.Test.YtpnahobgmemdjaaGAQ
import Derived.Test.YtpnahobgmemdjaaGAL
import Derived.Test.YtpnahobgmemdjaaGAW
import Derived.Test.YtpnahobgmemdjaaGAM
set_option linter.unusedSimpArgs false
set_option linter.unusedVariables false
/- Walks: slices.Insert of one placed tile. -/








namespace Go.Proofs.Ytpnahobgmemdjaa
open Go.RowKit Go.Shelf
attribute [local go_sem] BelowBy.cell BelowBy.cell_drew stillUpon givesUpon BelowBy.cell_drew2 BelowBy.cell_drew3

section
variable {P : Program}
/-- copy over cells of whatever size -/
theorem run_copy_cellsN (w : World) (dT sT ty elem : TypeId) (size b o dLen dCap : Nat) (a : Addr) (sLen sCap m : Nat) (cs : List Value)
    (hu : P.underlying dT = some (.slice elem)) (hs : (P.info? elem).map (·.size) = some size) (hm : m = Nat.min sLen dLen) (hn : cs.length = m * size)
    (hsrc : ∀ j v, cs[j]? = some v → w.cell? (a.add j) = some v) (hc : ∀ j, j < cs.length → (w.cell? ⟨b, o + j, none⟩).isSome = true) (hf : ∀ j, j < cs.length → w.frozen? ⟨b, o + j, none⟩ = false) (h1 : ∀ v ∈ cs, v.oneCell' = true) :
    (Builtin.copy_ #[dT, sT] ty #[.slice (some ⟨b, o, none⟩) dLen dCap, .slice (some a) sLen sCap]).run P w = .ok (goInt m) (w.setCells b o cs) := by
  have hl := run_loadCells_list (P := P) w a cs hsrc
  have hst := run_storeCells_cells (P := P) b o cs 0 w (by simpa using hc) (by simpa using hf) h1
  cases hq : P.info? elem with
  | none => simp [hq] at hs
  | some i =>
    have hi : i.size = size := by simpa [hq] using hs
    rw [hn] at hl
    simp [Builtin.copy_, run_underlying hu, Builtin.lenOf, Builtin.firstCells, sizeOf, typeInfo, hq, hi, ← hm, hl, hst]
theorem wp_copy_runA (w : World) {o : Oper} {a : Act} {K : Act → World → Prop} {Q : Exit → Act → World → Prop} (d s : Operand) (t t' : TypeId)
    (ho : o.op = .call { callee := .builtin .copy, args := #[d, s], argTypes := #[t, t'] }) (v u : Value) (hd : a.eval d = v) (hs : a.eval s = u) {v' : Value} {w' : World}
    (hr : (Builtin.copy_ #[t, t'] o.type #[v, u]).run P w = .ok v' w') (h : K (a.put o.dst v') w') : o.wp P a w K Q := by
  unfold Oper.wp execOp
  simp only [ho, resolve, invoke, builtin, Sem.run_bind, Sem.run_pure, Result.andThen_ok, List.map_toArray, List.map_cons, List.map_nil, hd, hs, hr]
  exact h
theorem wpList_copy_runA (w : World) {ops : Array Oper} {rest : List Oper} {o : Oper} {a : Act} {Q : Exit → Act → World → Prop} (hgd : o.guard = none) (d s : Operand) (t t' : TypeId)
    (ho : o.op = .call { callee := .builtin .copy, args := #[d, s], argTypes := #[t, t'] }) (v u : Value) (hd : a.eval d = v) (hs : a.eval s = u) {v' : Value} {w' : World}
    (hr : (Builtin.copy_ #[t, t'] o.type #[v, u]).run P w = .ok v' w') (h : wpList P ops Q rest (a.put o.dst v') w') : wpList P ops Q (o :: rest) a w :=
  wpList_plain hgd fun _ hK => wp_copy_runA w d s t t' ho v u hd hs hr (hK _ _ h)
theorem step_copy_runA {ops : Array Oper} {o : Oper} {a : Act} {w : World} {K : Act → World → Prop} {Q : Exit → Act → World → Prop} {E : Prop}
    (hg : o.guard = none) (d x : Operand) (dT sT : TypeId) (hop : o.op = Op.call { callee := Callee.builtin Builtin.copy, args := #[d, x], argTypes := #[dT, sT] })
    (v u : Value) (hd : a.eval d = v) (hx : a.eval x = u) {v' : Value} {w' : World} (hr : (Builtin.copy_ #[dT, sT] o.type #[v, u]).run P w = .ok v' w') (hK : K (a.put o.dst v') w') :
    if Region.wanted o (yielded ops a.tmps) = true then Oper.wp P o a w K Q else E := by
  have hw : Region.wanted o (yielded ops a.tmps) = true := by simp [Region.wanted, hg]
  rw [if_pos hw]
  unfold Oper.wp
  simp [execOp, hop, resolve, invoke, builtin, hd, hx, hr, Result.andThen]
  exact hK
/-- an append of zeros that does not fit: a new row of the elements and zeros -/
theorem run_append_grow_zerosA (w : World) (t tn ty e : TypeId) (i : TypeInfo) (z : Value) (k kn : IntKind) (ht : P.underlying t = some (.slice e)) (htn : P.underlying tn = some (.int kn)) (hi : P.info? e = some i) (hz : i.zero = some z)
    (base : Option Addr) (sLen sCap : Nat) (olds : List Value) (hold : (Builtin.firstCells i.size sLen (.slice base sLen sCap)).run P w.drew = .ok olds.toArray w.drew)
    (n : Nat) (h0 : 0 < n) (hs : 0 < i.size) (hg : sCap < sLen + n) (h63 : ((sLen + n : Nat) : Int) ≤ 9223372036854775807) (h48 : n * i.bytes ≤ 281474976710656) (hfit : Builtin.nextslicecap (sLen + n) sCap * i.bytes ≤ 281474976710656) :
    (Builtin.append_ #[t, tn] ty #[.slice base sLen sCap, .int k n]).run P w =
      .ok (.slice (some ⟨w.heap.size, 0, none⟩) (sLen + n) (grownCap w (sLen + n) sCap e)) (w.drew.alloc (.cells (olds.toArray ++ Builtin.zeroCells z.cells n ++ Builtin.zeroCells z.cells (grownCap w (sLen + n) sCap e - (sLen + n))) e)) := by
  have hn : n ≠ 0 := by omega
  have hnn : ¬ (sLen + n ≤ sCap) := by omega
  have hw : IntKind.i64.wrap (n : Int) = n := by rw [IntKind.wrap_i64]; omega
  have h63' : ¬ (9223372036854775807 < ((sLen : Int) + (n : Int))) := by omega
  have h63'' : ¬ (9223372036854775807 < (n : Int)) := by omega
  have h48' : ¬ (281474976710656 < Builtin.nextslicecap (sLen + n) sCap * i.bytes) := by omega
  have h48i : ¬ (281474976710656 < (n : Int) * (i.bytes : Int)) := by
    rw [← Int.natCast_mul]
    omega
  have hneg : ¬ ((n : Int) < 0) := by omega
  have hns : ¬ (n * i.size = 0) := Nat.mul_ne_zero hn (by omega)
  simp [Builtin.append_, run_underlying ht, run_underlying htn, sizeOf, typeInfo, zeroValue, hi, hz, asInt, asIntOf, hw, hn, hnn, hneg, hns, h63', h63'', h48', h48i, Question.forced, hold, newRow, grownCap]
end
/-- one tile put in at place i -/
def insL (L : List Pl) (i : Nat) (e : Pl) : List Pl := L.take i ++ e :: L.drop i
theorem plCells_app (l m : List Pl) : plCells (l ++ m) = plCells l ++ plCells m := by
  induction l with
  | nil => rfl
  | cons a l ih => simp [plCells, ih]
theorem plCells_take (l : List Pl) (i : Nat) : plCells (l.take i) = (plCells l).take (i * 3) := by
  induction l generalizing i with
  | nil => simp [plCells]
  | cons a l ih =>
    cases i with
    | zero => simp [plCells]
    | succ i => rw [show (i + 1) * 3 = i * 3 + 3 by omega]; simp [plCells, ih]
theorem plCells_drop (l : List Pl) (i : Nat) : plCells (l.drop i) = (plCells l).drop (i * 3) := by
  induction l generalizing i with
  | nil => simp [plCells]
  | cons a l ih =>
    cases i with
    | zero => simp [plCells]
    | succ i => rw [show (i + 1) * 3 = i * 3 + 3 by omega]; simp [plCells, ih]
theorem insL_cells (L : List Pl) (i : Nat) (e : Pl) : plCells (insL L i e) = (plCells L).take (i * 3) ++ ([.int .i64 e.x, .int .i64 e.y, .int .i64 e.t] ++ (plCells L).drop (i * 3)) := by
  unfold insL
  rw [plCells_app, plCells, plCells_take, plCells_drop]; rfl
theorem insL_len {L : List Pl} {i : Nat} {e : Pl} : (insL L i e).length = L.length + 1 := by
  unfold insL
  rw [List.length_append, List.length_cons, List.length_take, List.length_drop]
  omega
theorem insL_end (L : List Pl) (e : Pl) : insL L L.length e = L ++ [e] := by
  unfold insL; simp
def InsRes (base : Nat) (w : World) (v : Value) (Z : List Pl) (e : Ending) (w' : World) : Prop :=
  ∃ v', e = .returned v' ∧ w'.ownsRow base 38 3 v' Z.length (plCells Z) ∧ w.grownBy w' v.ownBlock
end Go.Proofs.Ytpnahobgmemdjaa
/- Walks: the reference puts a tile into an assembly. -/





namespace Go.Proofs.Ytpnahobgmemdjaa
open Go.RowKit Go.Shelf
attribute [local go_sem] BelowBy.cell BelowBy.cell_drew stillUpon givesUpon BelowBy.cell_drew2 BelowBy.cell_drew3

/-- what has been laid when i tiles have been looked at -/
def putR (ys : List Pl) (e : Pl) (j0 i : Nat) : List Pl := if j0 < i then insL (ys.take i) j0 e else ys.take i
theorem putR_lt {ys : List Pl} {e d : Pl} {j0 i : Nat} (h : i < j0) (hd : ys[i]? = some d) : putR ys e j0 (i + 1) = putR ys e j0 i ++ [d] := by
  obtain ⟨hi, rfl⟩ := List.getElem?_eq_some_iff.1 hd
  unfold putR
  rw [if_neg (by omega), if_neg (by omega), List.take_succ_eq_append_getElem hi]
theorem putR_eq {ys : List Pl} {e d : Pl} {j0 : Nat} (hd : ys[j0]? = some d) : putR ys e j0 (j0 + 1) = (putR ys e j0 j0 ++ [e]) ++ [d] := by
  obtain ⟨hi, rfl⟩ := List.getElem?_eq_some_iff.1 hd
  unfold putR insL
  rw [if_pos (by omega), if_neg (by omega), List.take_take, List.drop_take]
  have h1 : min j0 (j0 + 1) = j0 := by omega
  have h2 : j0 + 1 - j0 = 1 := by omega
  rw [h1, h2, show (ys.drop j0).take 1 = [ys[j0]] by rw [List.drop_eq_getElem_cons hi]; rfl]
  simp
theorem putR_gt {ys : List Pl} {e d : Pl} {j0 i : Nat} (h : j0 < i) (hd : ys[i]? = some d) : putR ys e j0 (i + 1) = putR ys e j0 i ++ [d] := by
  obtain ⟨hi, rfl⟩ := List.getElem?_eq_some_iff.1 hd
  unfold putR insL
  rw [if_pos (by omega), if_pos h, List.take_take, List.take_take, List.drop_take, List.drop_take]
  have h1 : min j0 (i + 1) = j0 := by omega
  have h2 : min j0 i = j0 := by omega
  have h3 : i + 1 - j0 = (i - j0) + 1 := by omega
  rw [h1, h2, h3, List.take_succ_eq_append_getElem (by simp; omega)]
  simp only [List.getElem_drop, List.append_assoc, List.cons_append]
  have h4 : j0 + (i - j0) = i := by omega
  simp only [h4]
theorem putR_end {ys : List Pl} {e : Pl} {j0 : Nat} (h : j0 < ys.length) : putR ys e j0 ys.length = insL ys j0 e := by
  unfold putR; rw [if_pos h, List.take_length]
theorem putR_end2 {ys : List Pl} {e : Pl} {j0 : Nat} (h : j0 = ys.length) : putR ys e j0 ys.length ++ [e] = insL ys j0 e := by
  subst h; unfold putR; rw [if_neg (by omega), List.take_length, insL_end]
theorem putR_len {ys : List Pl} {e : Pl} {j0 i : Nat} (h : i ≤ ys.length) : (putR ys e j0 i).length = if j0 < i then i + 1 else i := by
  unfold putR
  split
  · rw [insL_len, List.length_take]; omega
  · rw [List.length_take]; omega
theorem cell_three_newA (w : World) (a b c : Value) (t : TypeId) : ∀ j u, [a, b, c][j]? = some u → (w.alloc (Obj.cells #[a, b, c] t)).cell? ((⟨w.heap.size, 0, none⟩ : Addr).add j) = some u := by
  intro j u hj
  match j, hj with
  | 0, hj => simp at hj; subst hj; simp [Addr.add]
  | 1, hj => simp at hj; subst hj; simp [Addr.add]
  | 2, hj => simp at hj; subst hj; simp [Addr.add]
  | j + 3, hj => simp at hj
theorem ownsRow_lowA {w : World} {base base' : Nat} {e : TypeId} {size : Nat} {v : Value} {n : Nat} {xs : List Value} (h : w.ownsRow base e size v n xs) (hb : base' ≤ base) : w.ownsRow base' e size v n xs :=
  ⟨h.1, h.2.imp id (fun ⟨g, cap, cur, h1, h2, h3⟩ => ⟨g, cap, cur, h1, Nat.le_trans hb h2, h3⟩)⟩
theorem ownsRow_setLowA {w : World} {base : Nat} {e : TypeId} {size : Nat} {v : Value} {n : Nat} {xs : List Value} (h : w.ownsRow base e size v n xs) {p : Addr} (hp : p.block < base) (x : Value) : (w.setCell p x).ownsRow base e size v n xs := by
  refine h.kept (row := some p.block) ⟨rfl, rfl, rfl, by simp, fun k hk hne => Below.heap_setCell _ _ _ _ (fun e => hne (by rw [e]))⟩ ?_
  cases hb : v.ownBlock with
  | none => exact .inl rfl
  | some g => exact .inr fun e' => by have := (h.lt g hb).1; injection e'; omega
set_option maxRecDepth 100000 in
set_option maxHeartbeats 8000000 in
theorem l03Put_any {op : Nat} (p : Nat) (gs : List Gl) (ts : List Ti) (ys : List Pl) (x y t : Int) (j0 : Nat) (w : World) (ha : AsmAt w p op ys) (hn : ys.length ≤ 100000) (hj : j0 ≤ ys.length) (hlo : ∀ (k : Nat) (d : Pl), k < j0 → ys[k]? = some d → lessPt x y d.x d.y = false) (hhi : ∀ (d : Pl), ys[j0]? = some d → lessPt x y d.x d.y = true) :
    Calls Try.prog 65 #[.pointer (some ⟨p, op, none⟩), .agg #[.int .i64 x, .int .i64 y], .int .i64 t] w fun e w' => ∃ v, e = .returned (.agg #[v]) ∧ w'.ownsRow w.heap.size 38 3 v (insL ys j0 ⟨x, y, t⟩).length (plCells (insL ys j0 ⟨x, y, t⟩)) ∧ Below w.heap.size w w' := by
  obtain ⟨i0, hi0, hz0, hz1, hz2⟩ := info_parts infoPl
  obtain ⟨hlt, A, q, ca, c1, rda⟩ := id ha
  have hlq := rda.len
  have hq : q ≤ 100000 := by omega
  have rdaH := Lib.hid rda
  have c1H := Lib.hid c1
  have hlqH := Lib.hid hlq
  have hloH := Lib.hid hlo
  have hhiH := Lib.hid hhi
  obtain ⟨e0, he0⟩ : ∃ e : Pl, e = ⟨x, y, t⟩ := ⟨_, rfl⟩
  have he0H := Lib.hid he0
  rw [← he0]
  have hj2 : j0 ≤ q := by omega
  clear ha rda c1 hlq hlo hhi he0 hj
  go_enter Try.func65, Try.ntmps65
  go_wp2_with fail
  go_loopg [9, 8] q (fun r a d wr => ∃ (i N : Nat) (b : Bool) (A3 : Option Addr) (c3 : Nat), i + r = q ∧ a = .int .i64 (i : Int) ∧ d = .bool b ∧ Hid (b = decide (j0 < i)) ∧ Hid (N = (putR ys e0 j0 i).length) ∧ N ≤ i + 1 ∧ Hid (wr.ownsRow (w.heap.size + 3) 38 3 (.slice A3 N c3) N (plCells (putR ys e0 j0 i))) ∧ Hid (Below w.heap.size w wr) ∧ w.heap.size + 1 + 1 < wr.heap.size ∧ wr.cell? ⟨w.heap.size + 1 + 1, 0, none⟩ = some (.slice A3 N c3) ∧ wr.frozen? ⟨w.heap.size + 1 + 1, 0, none⟩ = false ∧ wr.cell? ⟨w.heap.size + 1, 0, none⟩ = some (.slice none 0 0) ∧ wr.frozen? ⟨w.heap.size + 1, 0, none⟩ = false ∧ wr.cell? ⟨w.heap.size, 0, none⟩ = some (.int .i64 x) ∧ wr.cell? ⟨w.heap.size, 1, none⟩ = some (.int .i64 y))
  case atStart => exact ⟨0, 0, false, none, 0, by omega, rfl, rfl, Lib.hid (by simp), Lib.hid (by simp [putR]), by omega, Lib.hid (by rw [show putR ys e0 j0 0 = [] by simp [putR]]; exact World.ownsRow_nil _ _ _ _), Lib.hid (by exact bel_), by simp, by go_simp, by go_simp, by go_simp, by go_simp, by go_simp, by go_simp⟩
  case round =>
    obtain ⟨i, N, b, A3, c3, hr, rfl, rfl, hb, hN, hN1, hO, hbw, hsz, d0, df, r0, rf, p0, p1⟩ := hrel
    have hsw := hbw.out.size
    have a1 := (hbw.out.cell (p := ⟨p, op, none⟩) hlt).trans c1H.out
    have l1 : p < wr.heap.size := Nat.lt_of_lt_of_le hlt hsw
    have l0 : w.heap.size < wr.heap.size := by omega
    have l2 : w.heap.size + 1 < wr.heap.size := by omega
    by_cases hiq : i < q
    · obtain ⟨d, hd⟩ : ∃ d, ys[i]? = some d := ⟨_, List.getElem?_eq_getElem (by have := hlqH.out; omega)⟩
      obtain ⟨bA, oA, rfl, hbA0, hcA⟩ := rdaH.out.ptr (by omega)
      obtain ⟨g0, g1, g2⟩ := hcA i d hd
      replace g0 := (hbw.out.cell (p := ⟨bA, oA + i * 3, none⟩) hbA0).trans g0
      replace g1 := (hbw.out.cell (p := ⟨bA, oA + i * 3 + 1, none⟩) hbA0).trans g1
      replace g2 := (hbw.out.cell (p := ⟨bA, oA + i * 3 + 2, none⟩) hbA0).trans g2
      have hbA : bA < wr.heap.size := Nat.lt_of_lt_of_le hbA0 hsw
      have hdH := Lib.hid hd
      clear hcA hd
      rcases Nat.lt_trichotomy i j0 with hij | hij | hij
      · obtain rfl : false = b := by rw [hb.out]; exact (decide_eq_false (by omega)).symm
        have hl0 := Lib.hid (hloH.out i d hij hdH.out)
        have hnx := Lib.hid (putR_lt (e := e0) hij hdH.out)
        go_wp2_with fail
        refine wp_region_ord [(0, .q), (1, .q), (2, .q), (3, .q), (4, .q), (5, .q), (6, .q), (7, .q), (8, .q), (9, .q), (10, .q), (11, .q), (12, .g), (13, .q)] (by kernel_rfl) (by kernel_rfl) ?_
        simp only [pick, List.filterMap_cons, List.filterMap_nil, List.getElem?_toArray, List.getElem?_cons_zero, List.getElem?_cons_succ, Option.map_some]
        repeat (first
          | ((with_reducible refine wpD_p (fun K hK => ?_)); go_simp; refine hK _ ?_; clear hK K)
          | ((with_reducible refine wpD_q (fun K hK => ?_)); go_simp; (first | refine hK _ ?_ | (go_bits; refine hK _ ?_) | (go_bits; go_simp; refine hK _ ?_)); clear hK K)
          | ((with_reducible refine wpD_g (fun K hK => ?_)); go_simp; refine hK _ _ ?_; clear hK K)
          | ((with_reducible refine wpD_g (fun K hK => ?_)); go_simp; refine ⟨Grew.of_alloc _, hK _ _ ?_⟩; clear hK K)
          | ((with_reducible refine wpD_g (fun K hK => ?_)); go_simp; refine ⟨Below.refl _ _, hK _ _ ?_⟩; clear hK K)
          | ((with_reducible refine wpD_g (fun K hK => ?_)); go_simp; go_at_call 43; refine (sLessPoint_at hl0.out).mono ?_; rintro e w2 ⟨rfl, hbw2⟩; refine ⟨_, rfl, hbw2, hK _ _ ?_⟩; clear hK K; obtain ⟨chbw2, fhbw2, shbw2, thbw2⟩ := bcell hbw2))
        with_reducible refine wpD_nil ?_
        have hB2 : Below wr.heap.size wr w2 := (by exact bel_)
        replace g0 := (hB2.cell (p := ⟨bA, oA + i * 3, none⟩) hbA).trans g0
        replace g1 := (hB2.cell (p := ⟨bA, oA + i * 3 + 1, none⟩) hbA).trans g1
        replace g2 := (hB2.cell (p := ⟨bA, oA + i * 3 + 2, none⟩) hbA).trans g2
        replace hbA := Nat.lt_of_lt_of_le hbA hB2.size
        replace d0 := (hB2.cell (p := ⟨w.heap.size + 1 + 1, 0, none⟩) hsz).trans d0
        replace df := (hB2.frozen (p := ⟨w.heap.size + 1 + 1, 0, none⟩) hsz).trans df
        replace r0 := (hB2.cell (p := ⟨w.heap.size + 1, 0, none⟩) l2).trans r0
        replace rf := (hB2.frozen (p := ⟨w.heap.size + 1, 0, none⟩) l2).trans rf
        replace p0 := (hB2.cell (p := ⟨w.heap.size, 0, none⟩) l0).trans p0
        replace p1 := (hB2.cell (p := ⟨w.heap.size, 1, none⟩) l0).trans p1
        replace a1 := (hB2.cell (p := ⟨p, op, none⟩) l1).trans a1
        replace hO := Lib.hid (ownsRow_below hO.out hB2)
        replace hbw := Lib.hid (hbw.out.trans (hB2.mono hsw))
        replace hsz := Nat.lt_of_lt_of_le hsz hB2.size
        replace l1 := Nat.lt_of_lt_of_le l1 hB2.size
        replace l0 := Nat.lt_of_lt_of_le l0 hB2.size
        replace l2 := Nat.lt_of_lt_of_le l2 hB2.size
        replace hsw := Nat.le_trans hsw hB2.size
        have hsb : w.heap.size + 3 ≤ w2.heap.size := by omega
        clear hB2 hbw2 chbw2 fhbw2 shbw2 thbw2
        go_wp2_with fail
        refine wp_region_ord [(0, .q), (1, .q), (2, .q), (3, .q), (4, .q), (5, .q), (6, .q), (7, .q), (8, .q), (9, .g), (10, .b), (11, .q), (12, .b)] (by kernel_rfl) (by kernel_rfl) ?_
        simp only [pick, List.filterMap_cons, List.filterMap_nil, List.getElem?_toArray, List.getElem?_cons_zero, List.getElem?_cons_succ, Option.map_some]
        repeat (first | ((with_reducible refine wpD_p (fun K hK => ?_)); go_simp; refine hK _ ?_; clear hK K) | ((with_reducible refine wpD_q (fun K hK => ?_)); go_simp; (first | refine hK _ ?_ | (go_bits; refine hK _ ?_) | (go_bits; go_simp; refine hK _ ?_)); clear hK K))
        with_reducible refine wpD_g (fun K hK => ?_)
        go_simp
        refine ⟨Grew.of_alloc _, hK _ _ ?_⟩
        clear hK K
        have hb5 : Hid (Below w2.heap.size w2 (w2.alloc (Obj.cells #[.int .i64 d.x, .int .i64 d.y, .int .i64 d.t] 38)).drew) := Lib.hid (by exact bel_)
        refine wpD_append rfl _ _ 24 rfl (w.heap.size + 3) 38 i0 (.agg #[.int .i64 0, .int .i64 0, .int .i64 0]) 3 24 Try.underlying24 hi0 hz0 hz1 hz2 rfl (by decide) _ N (plCells (putR ys e0 j0 i)) (by go_simp) (ownsRow_below hO.out hb5.out) ⟨w2.heap.size, 0, none⟩ 1 1 [.int .i64 d.x, .int .i64 d.y, .int .i64 d.t] (by go_simp) rfl ?hnews (fun x hx => by simp at hx; rcases hx with rfl | rfl | rfl <;> rfl) (by unfold maxLen; omega) (by omega) (by simp; omega) ?_
        case hnews =>
          have := cell_three_newA w2 (.int .i64 d.x) (.int .i64 d.y) (.int .i64 d.t) 38
          simpa using this
        intro v5 w5 hown hgrow
        obtain ⟨g5, c5, rfl⟩ := ownsRow_succ hown
        have hB5 : Below (w.heap.size + 3) w2 w5 := (hb5.out.mono hsb).grown hgrow (by simp; omega) (fun g e => (hO.out.lt g e).1)
        have hs5 : w.heap.size + 3 ≤ w5.heap.size := Nat.le_trans hsb hB5.size
        replace d0 := (hB5.cell (p := ⟨w.heap.size + 1 + 1, 0, none⟩) (by simp)).trans d0
        replace df := (hB5.frozen (p := ⟨w.heap.size + 1 + 1, 0, none⟩) (by simp)).trans df
        replace r0 := (hB5.cell (p := ⟨w.heap.size + 1, 0, none⟩) (by simp)).trans r0
        replace rf := (hB5.frozen (p := ⟨w.heap.size + 1, 0, none⟩) (by simp)).trans rf
        replace p0 := (hB5.cell (p := ⟨w.heap.size, 0, none⟩) (by simp)).trans p0
        replace p1 := (hB5.cell (p := ⟨w.heap.size, 1, none⟩) (by simp)).trans p1
        have lz : w.heap.size + 1 + 1 < w5.heap.size := by omega
        have hown' : w5.ownsRow (w.heap.size + 3) 38 3 (.slice (some ⟨g5, 0, none⟩) (N + 1) c5) (N + 1) (plCells (putR ys e0 j0 (i + 1))) := by rw [hnx.out, plCells_snoc]; exact hown
        have hO5 := Lib.hid (ownsRow_setLowA (base := w.heap.size + 3) hown' (p := ⟨w.heap.size + 1 + 1, 0, none⟩) (by simp) (.slice (some ⟨g5, 0, none⟩) (N + 1) c5))
        have hbw5 := Lib.hid ((hbw.out.trans (hB5.mono (by omega))).setCell (p := ⟨w.heap.size + 1 + 1, 0, none⟩) (by show w.heap.size ≤ w.heap.size + 1 + 1; omega) (.slice (some ⟨g5, 0, none⟩) (N + 1) c5))
        clear hown hown' hgrow hB5 hb5
        repeat (first | ((with_reducible refine wpD_p (fun K hK => ?_)); go_simp; refine hK _ ?_; clear hK K) | ((with_reducible refine wpD_q (fun K hK => ?_)); go_simp; (first | refine hK _ ?_ | (go_bits; refine hK _ ?_) | (go_bits; go_simp; refine hK _ ?_)); clear hK K))
        with_reducible refine wpD_b (fun K hK => ?_)
        go_simp
        refine hK _ _ ?_
        clear hK K
        with_reducible refine wpD_nil ?_
        go_wp2_with fail
        go_roundg (q - (i + 1))
        case measure => omega
        case rel => exact ⟨i + 1, N + 1, _, _, c5, by omega, by go_num, rfl, Lib.hid (by simp; omega), Lib.hid (by rw [hnx.out, List.length_append, ← hN.out]; rfl), by omega, hO5, hbw5, by go_simp, by go_simp, by go_simp, by go_simp, by go_simp, by go_simp, by go_simp⟩
      · obtain rfl : i = j0 := hij
        obtain rfl : false = b := by rw [hb.out]; exact (decide_eq_false (by omega)).symm
        have hl0 := Lib.hid (hhiH.out d hdH.out)
        have hnx := Lib.hid (putR_eq (e := e0) hdH.out)
        go_wp2_with fail
        refine wp_region_ord [(0, .q), (1, .q), (2, .q), (3, .q), (4, .q), (5, .q), (6, .q), (7, .q), (8, .q), (9, .q), (10, .q), (11, .q), (12, .g), (13, .q)] (by kernel_rfl) (by kernel_rfl) ?_
        simp only [pick, List.filterMap_cons, List.filterMap_nil, List.getElem?_toArray, List.getElem?_cons_zero, List.getElem?_cons_succ, Option.map_some]
        repeat (first
          | ((with_reducible refine wpD_p (fun K hK => ?_)); go_simp; refine hK _ ?_; clear hK K)
          | ((with_reducible refine wpD_q (fun K hK => ?_)); go_simp; (first | refine hK _ ?_ | (go_bits; refine hK _ ?_) | (go_bits; go_simp; refine hK _ ?_)); clear hK K)
          | ((with_reducible refine wpD_g (fun K hK => ?_)); go_simp; refine hK _ _ ?_; clear hK K)
          | ((with_reducible refine wpD_g (fun K hK => ?_)); go_simp; refine ⟨Grew.of_alloc _, hK _ _ ?_⟩; clear hK K)
          | ((with_reducible refine wpD_g (fun K hK => ?_)); go_simp; refine ⟨Below.refl _ _, hK _ _ ?_⟩; clear hK K)
          | ((with_reducible refine wpD_g (fun K hK => ?_)); go_simp; go_at_call 43; refine (sLessPoint_at hl0.out).mono ?_; rintro e w2 ⟨rfl, hbw2⟩; refine ⟨_, rfl, hbw2, hK _ _ ?_⟩; clear hK K; obtain ⟨chbw2, fhbw2, shbw2, thbw2⟩ := bcell hbw2))
        with_reducible refine wpD_nil ?_
        have hB2 : Below wr.heap.size wr w2 := (by exact bel_)
        replace g0 := (hB2.cell (p := ⟨bA, oA + i * 3, none⟩) hbA).trans g0
        replace g1 := (hB2.cell (p := ⟨bA, oA + i * 3 + 1, none⟩) hbA).trans g1
        replace g2 := (hB2.cell (p := ⟨bA, oA + i * 3 + 2, none⟩) hbA).trans g2
        replace hbA := Nat.lt_of_lt_of_le hbA hB2.size
        replace d0 := (hB2.cell (p := ⟨w.heap.size + 1 + 1, 0, none⟩) hsz).trans d0
        replace df := (hB2.frozen (p := ⟨w.heap.size + 1 + 1, 0, none⟩) hsz).trans df
        replace r0 := (hB2.cell (p := ⟨w.heap.size + 1, 0, none⟩) l2).trans r0
        replace rf := (hB2.frozen (p := ⟨w.heap.size + 1, 0, none⟩) l2).trans rf
        replace p0 := (hB2.cell (p := ⟨w.heap.size, 0, none⟩) l0).trans p0
        replace p1 := (hB2.cell (p := ⟨w.heap.size, 1, none⟩) l0).trans p1
        replace a1 := (hB2.cell (p := ⟨p, op, none⟩) l1).trans a1
        replace hO := Lib.hid (ownsRow_below hO.out hB2)
        replace hbw := Lib.hid (hbw.out.trans (hB2.mono hsw))
        replace hsz := Nat.lt_of_lt_of_le hsz hB2.size
        replace l1 := Nat.lt_of_lt_of_le l1 hB2.size
        replace l0 := Nat.lt_of_lt_of_le l0 hB2.size
        replace l2 := Nat.lt_of_lt_of_le l2 hB2.size
        replace hsw := Nat.le_trans hsw hB2.size
        have hsb : w.heap.size + 3 ≤ w2.heap.size := by omega
        clear hB2 hbw2 chbw2 fhbw2 shbw2 thbw2
        have hns : Hid (∀ j u, [Value.int .i64 x, .int .i64 y, .int .i64 t][j]? = some u → (w2.alloc (Obj.cells #[.int .i64 x, .int .i64 y, .int .i64 t] 38)).cell? ((⟨w2.heap.size, 0, none⟩ : Addr).add j) = some u) := Lib.hid (cell_three_newA w2 _ _ _ _)
        go_wp2_with (at_builtin; go_loud (refine wpList_append_own _ rfl _ _ 24 rfl (w.heap.size + 3) 38 i0 (.agg #[.int .i64 0, .int .i64 0, .int .i64 0]) 3 24 Try.underlying24 hi0 hz0 hz1 hz2 rfl (by decide) _ N (plCells (putR ys e0 i i)) rfl (hO.out.alloc _) ⟨w2.heap.size, 0, none⟩ 1 1 [.int .i64 x, .int .i64 y, .int .i64 t] rfl rfl hns.out (fun x hx => by simp at hx; rcases hx with rfl | rfl | rfl <;> rfl) (by unfold maxLen; omega) (by omega) (by simp; omega) ?_); intro v3 w3 hown3 hgrow3 _; obtain ⟨g3, c4, rfl⟩ := ownsRow_succ hown3; have hB3 : Below (w.heap.size + 3) w2 w3 := ((Below.refl _ w2).alloc hsb _).grown hgrow3 (by simp; omega) (fun g e => (hO.out.lt g e).1); have hs3 : w.heap.size + 3 ≤ w3.heap.size := Nat.le_trans hsb hB3.size; have u0 := (hB3.cell (p := ⟨w.heap.size + 1 + 1, 0, none⟩) (by simp)).trans d0; have u1 := (hB3.frozen (p := ⟨w.heap.size + 1 + 1, 0, none⟩) (by simp)).trans df; have u2 := (hB3.cell (p := ⟨w.heap.size + 1, 0, none⟩) (by simp)).trans r0; have u3 := (hB3.frozen (p := ⟨w.heap.size + 1, 0, none⟩) (by simp)).trans rf; have u4 := (hB3.cell (p := ⟨w.heap.size, 0, none⟩) (by simp)).trans p0; have u5 := (hB3.cell (p := ⟨w.heap.size, 1, none⟩) (by simp)).trans p1; have lz3 : w.heap.size + 1 + 1 < w3.heap.size := (by omega))
        replace g0 := (hB3.cell (p := ⟨bA, oA + i * 3, none⟩) (by simp; omega)).trans g0
        replace g1 := (hB3.cell (p := ⟨bA, oA + i * 3 + 1, none⟩) (by simp; omega)).trans g1
        replace g2 := (hB3.cell (p := ⟨bA, oA + i * 3 + 2, none⟩) (by simp; omega)).trans g2
        replace a1 := (hB3.cell (p := ⟨p, op, none⟩) (by simp; omega)).trans a1
        obtain ⟨w4, hw4⟩ : ∃ W, W = w3.setCell ⟨w.heap.size + 1 + 1, 0, none⟩ (.slice (some ⟨g3, 0, none⟩) (N + 1) c4) := ⟨_, rfl⟩
        rw [← hw4]
        have hne1 : ¬ bA = w.heap.size + 1 + 1 := by omega
        have hne2 : ¬ p = w.heap.size + 1 + 1 := by omega
        replace g0 : w4.cell? ⟨bA, oA + i * 3, none⟩ = some (.int .i64 d.x) := by rw [hw4]; exact (World.cell?_setCell_other _ _ _ _ (by simp [hne1])).trans g0
        replace g1 : w4.cell? ⟨bA, oA + i * 3 + 1, none⟩ = some (.int .i64 d.y) := by rw [hw4]; exact (World.cell?_setCell_other _ _ _ _ (by simp [hne1])).trans g1
        replace g2 : w4.cell? ⟨bA, oA + i * 3 + 2, none⟩ = some (.int .i64 d.t) := by rw [hw4]; exact (World.cell?_setCell_other _ _ _ _ (by simp [hne1])).trans g2
        replace a1 : w4.cell? ⟨p, op, none⟩ = some (.slice (some ⟨bA, oA, none⟩) q ca) := by rw [hw4]; exact (World.cell?_setCell_other _ _ _ _ (by simp [hne2])).trans a1
        replace d0 : w4.cell? ⟨w.heap.size + 1 + 1, 0, none⟩ = some (.slice (some ⟨g3, 0, none⟩) (N + 1) c4) := by rw [hw4]; go_simp
        replace df : w4.frozen? ⟨w.heap.size + 1 + 1, 0, none⟩ = false := by rw [hw4]; go_simp
        replace r0 : w4.cell? ⟨w.heap.size + 1, 0, none⟩ = some (.slice none 0 0) := by rw [hw4]; go_simp
        replace rf : w4.frozen? ⟨w.heap.size + 1, 0, none⟩ = false := by rw [hw4]; go_simp
        replace p0 : w4.cell? ⟨w.heap.size, 0, none⟩ = some (.int .i64 x) := by rw [hw4]; go_simp
        replace p1 : w4.cell? ⟨w.heap.size, 1, none⟩ = some (.int .i64 y) := by rw [hw4]; go_simp
        have hs4 : w4.heap.size = w3.heap.size := by rw [hw4]; simp
        have hNi : N ≤ i := by rw [hN.out, putR_len (by have := hlqH.out; omega), if_neg (by omega)]; exact Nat.le_refl _
        have hown4 : w3.ownsRow (w.heap.size + 3) 38 3 (.slice (some ⟨g3, 0, none⟩) (N + 1) c4) (N + 1) (plCells (putR ys e0 i i ++ [e0])) := by rw [plCells_snoc, he0H.out]; rw [he0H.out] at hown3; exact hown3
        replace hO := Lib.hid (show w4.ownsRow (w.heap.size + 3) 38 3 (.slice (some ⟨g3, 0, none⟩) (N + 1) c4) (N + 1) (plCells (putR ys e0 i i ++ [e0])) from by rw [hw4]; exact ownsRow_setLowA hown4 (p := ⟨w.heap.size + 1 + 1, 0, none⟩) (by simp) _)
        replace hbw := Lib.hid (show Below w.heap.size w w4 from by rw [hw4]; exact (hbw.out.trans (hB3.mono (by omega))).setCell (p := ⟨w.heap.size + 1 + 1, 0, none⟩) (by show w.heap.size ≤ w.heap.size + 1 + 1; omega) _)
        replace hbA : bA < w4.heap.size := by omega
        replace hsz : w.heap.size + 1 + 1 < w4.heap.size := by omega
        replace l0 : w.heap.size < w4.heap.size := by omega
        replace l1 : p < w4.heap.size := by omega
        replace l2 : w.heap.size + 1 < w4.heap.size := by omega
        replace hsb : w.heap.size + 3 ≤ w4.heap.size := by omega
        clear hown3 hgrow3 hB3 hw4 hs3 hs4 u0 u1 u2 u3 u4 u5 lz3 hown4 hns hne1 hne2
        go_wp2_with fail
        refine wp_region_ord [(0, .q), (1, .q), (2, .q), (3, .q), (4, .q), (5, .q), (6, .q), (7, .q), (8, .q), (9, .g), (10, .b), (11, .q), (12, .b)] (by kernel_rfl) (by kernel_rfl) ?_
        simp only [pick, List.filterMap_cons, List.filterMap_nil, List.getElem?_toArray, List.getElem?_cons_zero, List.getElem?_cons_succ, Option.map_some]
        repeat (first | ((with_reducible refine wpD_p (fun K hK => ?_)); go_simp; refine hK _ ?_; clear hK K) | ((with_reducible refine wpD_q (fun K hK => ?_)); go_simp; (first | refine hK _ ?_ | (go_bits; refine hK _ ?_) | (go_bits; go_simp; refine hK _ ?_)); clear hK K))
        with_reducible refine wpD_g (fun K hK => ?_)
        go_simp
        refine ⟨Grew.of_alloc _, hK _ _ ?_⟩
        clear hK K
        have hb5 : Hid (Below w4.heap.size w4 (w4.alloc (Obj.cells #[.int .i64 d.x, .int .i64 d.y, .int .i64 d.t] 38)).drew) := Lib.hid (by exact bel_)
        refine wpD_append rfl _ _ 24 rfl (w.heap.size + 3) 38 i0 (.agg #[.int .i64 0, .int .i64 0, .int .i64 0]) 3 24 Try.underlying24 hi0 hz0 hz1 hz2 rfl (by decide) _ (N + 1) (plCells (putR ys e0 i i ++ [e0])) (by go_simp) (ownsRow_below hO.out hb5.out) ⟨w4.heap.size, 0, none⟩ 1 1 [.int .i64 d.x, .int .i64 d.y, .int .i64 d.t] (by go_simp) rfl ?hnews (fun x hx => by simp at hx; rcases hx with rfl | rfl | rfl <;> rfl) (by unfold maxLen; omega) (by omega) (by simp; omega) ?_
        case hnews =>
          have := cell_three_newA w4 (.int .i64 d.x) (.int .i64 d.y) (.int .i64 d.t) 38
          simpa using this
        intro v5 w5 hown hgrow
        obtain ⟨g5, c5, rfl⟩ := ownsRow_succ hown
        have hB5 : Below (w.heap.size + 3) w4 w5 := (hb5.out.mono hsb).grown hgrow (by simp; omega) (fun g e => (hO.out.lt g e).1)
        have hs5 : w.heap.size + 3 ≤ w5.heap.size := Nat.le_trans hsb hB5.size
        replace d0 := (hB5.cell (p := ⟨w.heap.size + 1 + 1, 0, none⟩) (by simp)).trans d0
        replace df := (hB5.frozen (p := ⟨w.heap.size + 1 + 1, 0, none⟩) (by simp)).trans df
        replace r0 := (hB5.cell (p := ⟨w.heap.size + 1, 0, none⟩) (by simp)).trans r0
        replace rf := (hB5.frozen (p := ⟨w.heap.size + 1, 0, none⟩) (by simp)).trans rf
        replace p0 := (hB5.cell (p := ⟨w.heap.size, 0, none⟩) (by simp)).trans p0
        replace p1 := (hB5.cell (p := ⟨w.heap.size, 1, none⟩) (by simp)).trans p1
        have lz : w.heap.size + 1 + 1 < w5.heap.size := by omega
        have hown' : w5.ownsRow (w.heap.size + 3) 38 3 (.slice (some ⟨g5, 0, none⟩) ((N + 1) + 1) c5) ((N + 1) + 1) (plCells (putR ys e0 i (i + 1))) := by rw [hnx.out, plCells_snoc]; exact hown
        have hO5 := Lib.hid (ownsRow_setLowA (base := w.heap.size + 3) hown' (p := ⟨w.heap.size + 1 + 1, 0, none⟩) (by simp) (.slice (some ⟨g5, 0, none⟩) ((N + 1) + 1) c5))
        have hbw5 := Lib.hid ((hbw.out.trans (hB5.mono (by omega))).setCell (p := ⟨w.heap.size + 1 + 1, 0, none⟩) (by show w.heap.size ≤ w.heap.size + 1 + 1; omega) (.slice (some ⟨g5, 0, none⟩) ((N + 1) + 1) c5))
        clear hown hown' hgrow hB5 hb5
        repeat (first | ((with_reducible refine wpD_p (fun K hK => ?_)); go_simp; refine hK _ ?_; clear hK K) | ((with_reducible refine wpD_q (fun K hK => ?_)); go_simp; (first | refine hK _ ?_ | (go_bits; refine hK _ ?_) | (go_bits; go_simp; refine hK _ ?_)); clear hK K))
        with_reducible refine wpD_b (fun K hK => ?_)
        go_simp
        refine hK _ _ ?_
        clear hK K
        with_reducible refine wpD_nil ?_
        go_wp2_with fail
        go_roundg (q - (i + 1))
        case measure => omega
        case rel => exact ⟨i + 1, (N + 1) + 1, _, _, c5, by omega, by go_num, rfl, Lib.hid (by simp), Lib.hid (by rw [hnx.out, List.length_append, List.length_append, ← hN.out]; rfl), by omega, hO5, hbw5, by go_simp, by go_simp, by go_simp, by go_simp, by go_simp, by go_simp, by go_simp⟩
      · obtain rfl : true = b := by rw [hb.out]; exact (decide_eq_true (by omega)).symm
        have hnx := Lib.hid (putR_gt (e := e0) hij hdH.out)
        go_wp2_with fail
        refine wp_region_ord [(0, .q), (1, .q), (2, .q), (3, .q), (4, .q), (5, .q), (6, .q), (7, .q), (8, .q), (9, .q), (10, .q), (11, .q), (12, .g), (13, .q)] (by kernel_rfl) (by kernel_rfl) ?_
        simp only [pick, List.filterMap_cons, List.filterMap_nil, List.getElem?_toArray, List.getElem?_cons_zero, List.getElem?_cons_succ, Option.map_some]
        repeat (first
          | ((with_reducible refine wpD_p (fun K hK => ?_)); go_simp; refine hK _ ?_; clear hK K)
          | ((with_reducible refine wpD_q (fun K hK => ?_)); go_simp; (first | refine hK _ ?_ | (go_bits; refine hK _ ?_) | (go_bits; go_simp; refine hK _ ?_)); clear hK K)
          | ((with_reducible refine wpD_g (fun K hK => ?_)); go_simp; refine hK _ _ ?_; clear hK K)
          | ((with_reducible refine wpD_g (fun K hK => ?_)); go_simp; refine ⟨Grew.of_alloc _, hK _ _ ?_⟩; clear hK K)
          | ((with_reducible refine wpD_g (fun K hK => ?_)); go_simp; refine ⟨Below.refl _ _, hK _ _ ?_⟩; clear hK K))
        with_reducible refine wpD_nil ?_
        obtain ⟨w2, hw2⟩ : ∃ W, W = wr.drew := ⟨_, rfl⟩
        rw [← hw2]
        have hB2 : Below wr.heap.size wr w2 := (by rw [hw2]; exact Below.drew (Below.refl _ _))
        replace g0 := (hB2.cell (p := ⟨bA, oA + i * 3, none⟩) hbA).trans g0
        replace g1 := (hB2.cell (p := ⟨bA, oA + i * 3 + 1, none⟩) hbA).trans g1
        replace g2 := (hB2.cell (p := ⟨bA, oA + i * 3 + 2, none⟩) hbA).trans g2
        replace hbA := Nat.lt_of_lt_of_le hbA hB2.size
        replace d0 := (hB2.cell (p := ⟨w.heap.size + 1 + 1, 0, none⟩) hsz).trans d0
        replace df := (hB2.frozen (p := ⟨w.heap.size + 1 + 1, 0, none⟩) hsz).trans df
        replace r0 := (hB2.cell (p := ⟨w.heap.size + 1, 0, none⟩) l2).trans r0
        replace rf := (hB2.frozen (p := ⟨w.heap.size + 1, 0, none⟩) l2).trans rf
        replace p0 := (hB2.cell (p := ⟨w.heap.size, 0, none⟩) l0).trans p0
        replace p1 := (hB2.cell (p := ⟨w.heap.size, 1, none⟩) l0).trans p1
        replace a1 := (hB2.cell (p := ⟨p, op, none⟩) l1).trans a1
        replace hO := Lib.hid (ownsRow_below hO.out hB2)
        replace hbw := Lib.hid (hbw.out.trans (hB2.mono hsw))
        replace hsz := Nat.lt_of_lt_of_le hsz hB2.size
        replace l1 := Nat.lt_of_lt_of_le l1 hB2.size
        replace l0 := Nat.lt_of_lt_of_le l0 hB2.size
        replace l2 := Nat.lt_of_lt_of_le l2 hB2.size
        replace hsw := Nat.le_trans hsw hB2.size
        have hsb : w.heap.size + 3 ≤ w2.heap.size := by omega
        clear hB2 hw2
        go_wp2_with fail
        refine wp_region_ord [(0, .q), (1, .q), (2, .q), (3, .q), (4, .q), (5, .q), (6, .q), (7, .q), (8, .q), (9, .g), (10, .b), (11, .q), (12, .b)] (by kernel_rfl) (by kernel_rfl) ?_
        simp only [pick, List.filterMap_cons, List.filterMap_nil, List.getElem?_toArray, List.getElem?_cons_zero, List.getElem?_cons_succ, Option.map_some]
        repeat (first | ((with_reducible refine wpD_p (fun K hK => ?_)); go_simp; refine hK _ ?_; clear hK K) | ((with_reducible refine wpD_q (fun K hK => ?_)); go_simp; (first | refine hK _ ?_ | (go_bits; refine hK _ ?_) | (go_bits; go_simp; refine hK _ ?_)); clear hK K))
        with_reducible refine wpD_g (fun K hK => ?_)
        go_simp
        refine ⟨Grew.of_alloc _, hK _ _ ?_⟩
        clear hK K
        have hb5 : Hid (Below w2.heap.size w2 (w2.alloc (Obj.cells #[.int .i64 d.x, .int .i64 d.y, .int .i64 d.t] 38)).drew) := Lib.hid (by exact bel_)
        refine wpD_append rfl _ _ 24 rfl (w.heap.size + 3) 38 i0 (.agg #[.int .i64 0, .int .i64 0, .int .i64 0]) 3 24 Try.underlying24 hi0 hz0 hz1 hz2 rfl (by decide) _ N (plCells (putR ys e0 j0 i)) (by go_simp) (ownsRow_below hO.out hb5.out) ⟨w2.heap.size, 0, none⟩ 1 1 [.int .i64 d.x, .int .i64 d.y, .int .i64 d.t] (by go_simp) rfl ?hnews (fun x hx => by simp at hx; rcases hx with rfl | rfl | rfl <;> rfl) (by unfold maxLen; omega) (by omega) (by simp; omega) ?_
        case hnews =>
          have := cell_three_newA w2 (.int .i64 d.x) (.int .i64 d.y) (.int .i64 d.t) 38
          simpa using this
        intro v5 w5 hown hgrow
        obtain ⟨g5, c5, rfl⟩ := ownsRow_succ hown
        have hB5 : Below (w.heap.size + 3) w2 w5 := (hb5.out.mono hsb).grown hgrow (by simp; omega) (fun g e => (hO.out.lt g e).1)
        have hs5 : w.heap.size + 3 ≤ w5.heap.size := Nat.le_trans hsb hB5.size
        replace d0 := (hB5.cell (p := ⟨w.heap.size + 1 + 1, 0, none⟩) (by simp)).trans d0
        replace df := (hB5.frozen (p := ⟨w.heap.size + 1 + 1, 0, none⟩) (by simp)).trans df
        replace r0 := (hB5.cell (p := ⟨w.heap.size + 1, 0, none⟩) (by simp)).trans r0
        replace rf := (hB5.frozen (p := ⟨w.heap.size + 1, 0, none⟩) (by simp)).trans rf
        replace p0 := (hB5.cell (p := ⟨w.heap.size, 0, none⟩) (by simp)).trans p0
        replace p1 := (hB5.cell (p := ⟨w.heap.size, 1, none⟩) (by simp)).trans p1
        have lz : w.heap.size + 1 + 1 < w5.heap.size := by omega
        have hown' : w5.ownsRow (w.heap.size + 3) 38 3 (.slice (some ⟨g5, 0, none⟩) (N + 1) c5) (N + 1) (plCells (putR ys e0 j0 (i + 1))) := by rw [hnx.out, plCells_snoc]; exact hown
        have hO5 := Lib.hid (ownsRow_setLowA (base := w.heap.size + 3) hown' (p := ⟨w.heap.size + 1 + 1, 0, none⟩) (by simp) (.slice (some ⟨g5, 0, none⟩) (N + 1) c5))
        have hbw5 := Lib.hid ((hbw.out.trans (hB5.mono (by omega))).setCell (p := ⟨w.heap.size + 1 + 1, 0, none⟩) (by show w.heap.size ≤ w.heap.size + 1 + 1; omega) (.slice (some ⟨g5, 0, none⟩) (N + 1) c5))
        clear hown hown' hgrow hB5 hb5
        repeat (first | ((with_reducible refine wpD_p (fun K hK => ?_)); go_simp; refine hK _ ?_; clear hK K) | ((with_reducible refine wpD_q (fun K hK => ?_)); go_simp; (first | refine hK _ ?_ | (go_bits; refine hK _ ?_) | (go_bits; go_simp; refine hK _ ?_)); clear hK K))
        with_reducible refine wpD_b (fun K hK => ?_)
        go_simp
        refine hK _ _ ?_
        clear hK K
        with_reducible refine wpD_nil ?_
        go_wp2_with fail
        go_roundg (q - (i + 1))
        case measure => omega
        case rel => exact ⟨i + 1, N + 1, _, _, c5, by omega, by go_num, rfl, Lib.hid (by simp; omega), Lib.hid (by rw [hnx.out, List.length_append, ← hN.out]; rfl), by omega, hO5, hbw5, by go_simp, by go_simp, by go_simp, by go_simp, by go_simp, by go_simp, by go_simp⟩
    · obtain rfl : q = i := by omega
      have hend := hlqH.out
      by_cases hjq : j0 < q
      · obtain rfl : true = b := by rw [hb.out]; exact (decide_eq_true hjq).symm
        have hfin := putR_end (ys := ys) (e := e0) (j0 := j0) (by omega)
        rw [hend] at hfin
        have hfinH := Lib.hid hfin
        clear hfin
        go_wp2_with fail
        refine bodyPost_ret (v := .agg #[.slice A3 N c3]) (by simp only [results, Try.results65]; go_simp) rfl ?_
        refine ⟨_, rfl, ?_, hbw.out.setCell (p := ⟨w.heap.size + 1, 0, none⟩) (by show w.heap.size ≤ w.heap.size + 1; omega) _⟩
        rw [← hfinH.out, ← hN.out]
        exact ownsRow_lowA (ownsRow_setLowA hO.out (p := ⟨w.heap.size + 1, 0, none⟩) (by simp) _) (by omega)
      · obtain rfl : false = b := by rw [hb.out]; exact (decide_eq_false hjq).symm
        have hfin := putR_end2 (ys := ys) (e := e0) (j0 := j0) (by omega)
        rw [hend] at hfin
        have hfinH := Lib.hid hfin
        clear hfin
        have hsb : w.heap.size + 3 ≤ wr.heap.size := by omega
        have hns : Hid (∀ j u, [Value.int .i64 x, .int .i64 y, .int .i64 t][j]? = some u → (wr.alloc (Obj.cells #[.int .i64 x, .int .i64 y, .int .i64 t] 38)).cell? ((⟨wr.heap.size, 0, none⟩ : Addr).add j) = some u) := Lib.hid (cell_three_newA wr _ _ _ _)
        go_wp2_with (at_builtin; go_loud (refine wpList_append_own _ rfl _ _ 24 rfl (w.heap.size + 3) 38 i0 (.agg #[.int .i64 0, .int .i64 0, .int .i64 0]) 3 24 Try.underlying24 hi0 hz0 hz1 hz2 rfl (by decide) _ N (plCells (putR ys e0 j0 q)) rfl (hO.out.alloc _) ⟨wr.heap.size, 0, none⟩ 1 1 [.int .i64 x, .int .i64 y, .int .i64 t] rfl rfl hns.out (fun x hx => by simp at hx; rcases hx with rfl | rfl | rfl <;> rfl) (by unfold maxLen; omega) (by omega) (by simp; omega) ?_); intro v3 w3 hown3 hgrow3 _; obtain ⟨g3, c4, rfl⟩ := ownsRow_succ hown3; have hB3 : Below (w.heap.size + 3) wr w3 := ((Below.refl _ wr).alloc hsb _).grown hgrow3 (by simp; omega) (fun g e => (hO.out.lt g e).1); have hs3 : w.heap.size + 3 ≤ w3.heap.size := Nat.le_trans hsb hB3.size; have u0 := (hB3.cell (p := ⟨w.heap.size + 1 + 1, 0, none⟩) (by simp)).trans d0; have u1 := (hB3.frozen (p := ⟨w.heap.size + 1 + 1, 0, none⟩) (by simp)).trans df; have u2 := (hB3.cell (p := ⟨w.heap.size + 1, 0, none⟩) (by simp)).trans r0; have u3 := (hB3.frozen (p := ⟨w.heap.size + 1, 0, none⟩) (by simp)).trans rf; have u4 := (hB3.cell (p := ⟨w.heap.size, 0, none⟩) (by simp)).trans p0; have u5 := (hB3.cell (p := ⟨w.heap.size, 1, none⟩) (by simp)).trans p1; have lz3 : w.heap.size + 1 + 1 < w3.heap.size := (by omega); have lz4 : w.heap.size + 1 < w3.heap.size := (by omega))
        refine bodyPost_ret (v := .agg #[.slice (some ⟨g3, 0, none⟩) (N + 1) c4]) (by simp only [results, Try.results65]; go_simp) rfl ?_
        refine ⟨_, rfl, ?_, ((hbw.out.trans (hB3.mono (by omega))).setCell (p := ⟨w.heap.size + 1 + 1, 0, none⟩) (by show w.heap.size ≤ w.heap.size + 1 + 1; omega) _).setCell (p := ⟨w.heap.size + 1, 0, none⟩) (by show w.heap.size ≤ w.heap.size + 1; omega) _⟩
        have hown4 : w3.ownsRow (w.heap.size + 3) 38 3 (.slice (some ⟨g3, 0, none⟩) (N + 1) c4) (N + 1) (plCells (putR ys e0 j0 q ++ [e0])) := by rw [plCells_snoc, he0H.out]; rw [he0H.out] at hown3; exact hown3
        rw [← hfinH.out, List.length_append, ← hN.out]
        exact ownsRow_lowA (ownsRow_setLowA (ownsRow_setLowA hown4 (p := ⟨w.heap.size + 1 + 1, 0, none⟩) (by simp) _) (p := ⟨w.heap.size + 1, 0, none⟩) (by simp) _) (by omega)
end Go.Proofs.Ytpnahobgmemdjaa
/- Plain facts: drawn assemblies. -/

namespace Go.Proofs.Ytpnahobgmemdjaa
open Go.RowKit
/-- an assembly of at most n tiles with numbers below m, all within B -/
structure DrA (xs : List Pl) (m n B : Nat) : Prop where
  len : xs.length ≤ n
  at_ : ∀ e ∈ xs, (-(B : Int) ≤ e.x ∧ e.x ≤ B) ∧ (-(B : Int) ≤ e.y ∧ e.y ≤ B) ∧ ∃ t : Nat, e.t = t ∧ t < m
  srt : xs.Pairwise fun d e => lessPt d.x d.y e.x e.y = true
theorem DrA.nil (m n B : Nat) : DrA [] m n B := ⟨by simp, fun e he => by simp at he, List.Pairwise.nil⟩
theorem DrA.more {xs : List Pl} {m n B n' B' : Nat} (h : DrA xs m n B) (hn : n ≤ n') (hB : B ≤ B') : DrA xs m n' B' :=
  ⟨Nat.le_trans h.len hn, fun e he => by obtain ⟨⟨a, b⟩, ⟨c, d⟩, t⟩ := h.at_ e he; exact ⟨⟨by omega, by omega⟩, ⟨by omega, by omega⟩, t⟩, h.srt⟩
theorem DrA.one {m n B : Nat} {x y : Int} {t : Nat} (ht : t < m) (hn : 1 ≤ n) (hx : -(B : Int) ≤ x ∧ x ≤ B) (hy : -(B : Int) ≤ y ∧ y ≤ B) : DrA [⟨x, y, t⟩] m n B :=
  ⟨by simpa using hn, fun e he => by simp at he; subst he; exact ⟨hx, hy, t, rfl, ht⟩, by simp⟩
theorem lessPt_no {a b c d : Int} (h : lessPt a b c d = true) : lessPt c d a b = false := by
  cases hh : lessPt c d a b with
  | false => rfl
  | true => have h1 := (lessPt_iff _ _ _ _).1 h; have h2 := (lessPt_iff _ _ _ _).1 hh; omega
theorem lessPt_or {a b c d : Int} (h : lessPt a b c d = false) (hne : ¬ (a = c ∧ b = d)) : lessPt c d a b = true := by
  have h1 : ¬ (b < d ∨ (b = d ∧ a < c)) := by rw [← lessPt_iff, h]; simp
  rw [lessPt_iff]; omega
/-- the place of a new point -/
theorem place_new : ∀ (xs : List Pl) (x y : Int), xs.Pairwise (fun d e => lessPt d.x d.y e.x e.y = true) → (∀ e ∈ xs, ¬ (e.x = x ∧ e.y = y)) → ∃ j, j ≤ xs.length ∧ (∀ e ∈ xs.take j, lessPt e.x e.y x y = true) ∧ ∀ e ∈ xs.drop j, lessPt x y e.x e.y = true
  | [], x, y, _, _ => ⟨0, by simp, by simp, by simp⟩
  | a :: l, x, y, hs, hne => by
    obtain ⟨h1, h2⟩ := List.pairwise_cons.1 hs
    cases hl : lessPt a.x a.y x y with
    | false =>
      have ha := lessPt_or hl (hne a (by simp))
      refine ⟨0, by simp, by simp, fun e he => ?_⟩
      simp only [List.drop_zero, List.mem_cons] at he
      rcases he with rfl | he
      · exact ha
      · exact lessPt_trans ha (h1 e he)
    | true =>
      obtain ⟨j, hj, hlo, hhi⟩ := place_new l x y h2 fun e he => hne e (by simp [he])
      refine ⟨j + 1, by simp; omega, fun e he => ?_, fun e he => ?_⟩
      · simp only [List.take_succ_cons, List.mem_cons] at he
        rcases he with rfl | he
        · exact hl
        · exact hlo e he
      · exact hhi e (by simpa using he)
theorem DrA.insert {xs : List Pl} {m n B : Nat} (h : DrA xs m n B) {x y : Int} {t : Nat} (ht : t < m) (hx : -(B : Int) ≤ x ∧ x ≤ B) (hy : -(B : Int) ≤ y ∧ y ≤ B) (hne : ∀ e ∈ xs, ¬ (e.x = x ∧ e.y = y)) :
    ∃ j, j ≤ xs.length ∧ (∀ (k : Nat) (d : Pl), k < j → xs[k]? = some d → lessPt x y d.x d.y = false) ∧ (∀ (d : Pl), xs[j]? = some d → lessPt x y d.x d.y = true) ∧ DrA (insL xs j ⟨x, y, t⟩) m (n + 1) B := by
  obtain ⟨j, hj, hlo, hhi⟩ := place_new xs x y h.srt hne
  refine ⟨j, hj, fun k d hk hd => lessPt_no (hlo d (List.mem_of_getElem? (i := k) ?_)), fun d hd => hhi d (List.mem_of_getElem? (i := 0) ?_), ?_, fun e he => ?_, ?_⟩
  · rw [List.getElem?_take, if_pos hk]; exact hd
  · rw [List.getElem?_drop]; exact hd
  · have := h.len
    unfold insL
    simp only [List.length_append, List.length_cons, List.length_take, List.length_drop]
    omega
  · unfold insL at he
    rcases List.mem_append.1 he with he | he
    · exact h.at_ e (List.mem_of_mem_take he)
    · rcases List.mem_cons.1 he with rfl | he
      · exact ⟨hx, hy, t, rfl, ht⟩
      · exact h.at_ e (List.mem_of_mem_drop he)
  · unfold insL
    have hsp : xs.take j ++ xs.drop j = xs := List.take_append_drop j xs
    have hs := h.srt
    rw [← hsp, List.pairwise_append] at hs
    rw [List.pairwise_append]
    refine ⟨hs.1, List.pairwise_cons.2 ⟨fun e he => hhi e he, hs.2.1⟩, fun a ha b hb => ?_⟩
    rcases List.mem_cons.1 hb with rfl | hb
    · exact hlo a ha
    · exact hs.2.2 a ha b hb
theorem DrA.valid {gs : List Gl} {ts : List Ti} {xs : List Pl} {m n B : Nat} (h : DrA xs m n B) (h0 : Valid gs ts []) (hm : ts.length = m) (hB : B ≤ 60) (hn : n ≤ 500) : Valid gs ts xs := by
  refine ⟨by have := h.len; omega, h0.gl, h0.tl, fun k e he => ?_, fun k e he => ?_, fun i j d e hij hd he => ?_, h0.four, h0.side, h0.str⟩
  · obtain ⟨⟨a, b⟩, ⟨c, d⟩, _⟩ := h.at_ e (List.mem_of_getElem? he)
    exact ⟨⟨by omega, by omega⟩, by omega, by omega⟩
  · obtain ⟨_, _, t, ht, htm⟩ := h.at_ e (List.mem_of_getElem? he)
    exact ⟨t, ht, by omega⟩
  · have hj := lt_of_get he
    have hi := lt_of_get hd
    have := List.pairwise_iff_getElem.1 h.srt i j hi hj hij
    rw [List.getElem?_eq_getElem hi] at hd
    rw [List.getElem?_eq_getElem hj] at he
    obtain rfl := Option.some.inj hd
    obtain rfl := Option.some.inj he
    exact this
theorem valid_nil {gs : List Gl} {ts : List Ti} (h : validSetB gs ts = true) : Valid gs ts [] := valid_of (by
  unfold validAsmB; rw [h]
  have h1 : hasFormB [] = true := hasFormB_ok (by simp) (fun j hj => by simp at hj)
  have h2 : allB ([] : List Pl).length (okTile ts.length []) = true := allB_true (fun j hj => by simp at hj)
  rw [h1, h2]; rfl)
/-- a set that stands for any of m tiles -/
theorem valid_any (m : Nat) (hm : m ≤ 160) : Valid [] (List.replicate m ⟨ByteArray.empty, [0, 0, 0, 0]⟩) [] := by
  refine ⟨by simp, by simp, by simpa using hm, fun k e h => by simp at h, fun k e h => by simp at h, fun i j d e hij h => by simp at h, fun j t h => ?_, fun j t d v h hv => ?_, fun j g h => by simp at h⟩
  · rw [List.getElem?_replicate] at h
    split at h
    · obtain rfl := Option.some.inj h; rfl
    · cases h
  · rw [List.getElem?_replicate] at h
    split at h
    · obtain rfl := Option.some.inj h
      have : v ∈ [(0 : Int), 0, 0, 0] := List.mem_of_getElem? hv
      simp at this
      exact ⟨0, by simpa using this, by simp⟩
    · cases h
theorem DrA.asm {gs : List Gl} {ts : List Ti} {xs : List Pl} {m n B : Nat} (h : DrA xs m n B) (hv : validSetB gs ts = true) (hm : ts.length = m) (hB : B ≤ 60) (hn : n ≤ 500) : validAsmB gs ts xs = true := by
  have hV := h.valid (valid_nil hv) hm hB hn
  have htl := hV.tl
  unfold validAsmB
  rw [hv]
  have h1 : hasFormB xs = true := by
    refine hasFormB_ok hV.len fun j hj => ?_
    obtain ⟨e, he⟩ : ∃ e, xs[j]? = some e := ⟨_, List.getElem?_eq_getElem hj⟩
    have hp := hV.pt j e he
    obtain ⟨t, ht, htl2⟩ := hV.ti j e he
    have hpt : validPt e.x e.y = true := by unfold validPt; rw [inB_true.2 hp.1, inB_true.2 hp.2]; rfl
    have ht2 : inB e.t 0 159 = true := inB_true.2 (by omega)
    cases j with
    | zero => rw [okPl_eq0 he, hpt, ht2]; rfl
    | succ i =>
      obtain ⟨d, hd⟩ : ∃ d, xs[i]? = some d := ⟨_, List.getElem?_eq_getElem (by omega)⟩
      rw [okPl_eqS he hd, hpt, ht2, hV.sorted i (i + 1) d e (by omega) hd he]; rfl
  have h2 : allB xs.length (okTile ts.length xs) = true := allB_true fun j hj => by
    obtain ⟨e, he⟩ : ∃ e, xs[j]? = some e := ⟨_, List.getElem?_eq_getElem hj⟩
    obtain ⟨t, ht, htl2⟩ := hV.ti j e he
    unfold okTile
    rw [he]
    exact inB_true.2 (by omega)
  rw [h1, h2]; rfl
theorem place_neg {xs : List Pl} {x y : Int} (h : placeI xs x y < 0) : ∀ e ∈ xs, ¬ (e.x = x ∧ e.y = y) := by
  intro e he hxy
  obtain ⟨k, hk⟩ := List.mem_iff_getElem?.1 he
  rcases placeI_is xs x y with ⟨_, h2⟩ | ⟨j, _, h2, _⟩
  · exact h2 k e hk hxy
  · omega
end Go.Proofs.Ytpnahobgmemdjaa
