/- Walks: the reference puts a tile into an assembly. -/
import Derived.Test.YtmhgjgclclnmaaaGreatKI
import Derived.Test.YtmhgjgclclnmaaaGreatW20a
import Derived.Test.YtmhgjgclclnmaaaGreatW11
import Derived.Test.YtmhgjgclclnmaaaGreatKH
import Derived.Test.YtmhgjgclclnmaaaGreatOrdApp
namespace Go.Proofs.YtmhgjgclclnmaaaGreat
open Go.RowKit Go.Shelf
set_option linter.unusedSimpArgs false
set_option linter.unusedVariables false
attribute [local go_sem] BelowBy.cell BelowBy.cell_drew stillUpon givesUpon BelowBy.cell_drew2 BelowBy.cell_drew3

/-- what has been laid when i tiles have been looked at -/
def putR (ys : List Pl) (e : Pl) (j0 i : Nat) : List Pl := if j0 < i then insL (ys.take i) j0 e else ys.take i
theorem putR_lt {ys : List Pl} {e d : Pl} {j0 i : Nat} (h : i < j0) (hd : ys[i]? = some d) : putR ys e j0 (i + 1) = putR ys e j0 i ++ [d] := by
  obtain ⟨hi, rfl⟩ := List.getElem?_eq_some_iff.1 hd
  unfold putR
  rw [if_neg (by omega), if_neg (by omega), List.take_succ_eq_append_getElem hi]
theorem putR_eq {ys : List Pl} {e d : Pl} {j0 : Nat} (hd : ys[j0]? = some d) : putR ys e j0 (j0 + 1) = (putR ys e j0 j0 ++ [e]) ++ [d] := by
  obtain ⟨hi, rfl⟩ := List.getElem?_eq_some_iff.1 hd
  unfold putR insL
  rw [if_pos (by omega), if_neg (by omega), List.take_take, List.drop_take]
  have h1 : min j0 (j0 + 1) = j0 := by omega
  have h2 : j0 + 1 - j0 = 1 := by omega
  rw [h1, h2, show (ys.drop j0).take 1 = [ys[j0]] by rw [List.drop_eq_getElem_cons hi]; rfl]
  simp
theorem putR_gt {ys : List Pl} {e d : Pl} {j0 i : Nat} (h : j0 < i) (hd : ys[i]? = some d) : putR ys e j0 (i + 1) = putR ys e j0 i ++ [d] := by
  obtain ⟨hi, rfl⟩ := List.getElem?_eq_some_iff.1 hd
  unfold putR insL
  rw [if_pos (by omega), if_pos h, List.take_take, List.take_take, List.drop_take, List.drop_take]
  have h1 : min j0 (i + 1) = j0 := by omega
  have h2 : min j0 i = j0 := by omega
  have h3 : i + 1 - j0 = (i - j0) + 1 := by omega
  rw [h1, h2, h3, List.take_succ_eq_append_getElem (by simp; omega)]
  simp only [List.getElem_drop, List.append_assoc, List.cons_append]
  have h4 : j0 + (i - j0) = i := by omega
  simp only [h4]
theorem putR_end {ys : List Pl} {e : Pl} {j0 : Nat} (h : j0 < ys.length) : putR ys e j0 ys.length = insL ys j0 e := by
  unfold putR; rw [if_pos h, List.take_length]
theorem putR_end2 {ys : List Pl} {e : Pl} {j0 : Nat} (h : j0 = ys.length) : putR ys e j0 ys.length ++ [e] = insL ys j0 e := by
  subst h; unfold putR; rw [if_neg (by omega), List.take_length, insL_end]
theorem putR_len {ys : List Pl} {e : Pl} {j0 i : Nat} (h : i ≤ ys.length) : (putR ys e j0 i).length = if j0 < i then i + 1 else i := by
  unfold putR
  split
  · rw [insL_len, List.length_take]; omega
  · rw [List.length_take]; omega
theorem cell_three_newA (w : World) (a b c : Value) (t : TypeId) : ∀ j u, [a, b, c][j]? = some u → (w.alloc (Obj.cells #[a, b, c] t)).cell? ((⟨w.heap.size, 0, none⟩ : Addr).add j) = some u := by
  intro j u hj
  match j, hj with
  | 0, hj => simp at hj; subst hj; simp [Addr.add]
  | 1, hj => simp at hj; subst hj; simp [Addr.add]
  | 2, hj => simp at hj; subst hj; simp [Addr.add]
  | j + 3, hj => simp at hj
theorem ownsRow_lowA {w : World} {base base' : Nat} {e : TypeId} {size : Nat} {v : Value} {n : Nat} {xs : List Value} (h : w.ownsRow base e size v n xs) (hb : base' ≤ base) : w.ownsRow base' e size v n xs :=
  ⟨h.1, h.2.imp id (fun ⟨g, cap, cur, h1, h2, h3⟩ => ⟨g, cap, cur, h1, Nat.le_trans hb h2, h3⟩)⟩
theorem ownsRow_setLowA {w : World} {base : Nat} {e : TypeId} {size : Nat} {v : Value} {n : Nat} {xs : List Value} (h : w.ownsRow base e size v n xs) {p : Addr} (hp : p.block < base) (x : Value) : (w.setCell p x).ownsRow base e size v n xs := by
  refine h.kept (row := some p.block) ⟨rfl, rfl, rfl, by simp, fun k hk hne => Below.heap_setCell _ _ _ _ (fun e => hne (by rw [e]))⟩ ?_
  cases hb : v.ownBlock with
  | none => exact .inl rfl
  | some g => exact .inr fun e' => by have := (h.lt g hb).1; injection e'; omega
set_option maxRecDepth 100000 in
set_option maxHeartbeats 8000000 in
theorem l03Put_any {op : Nat} (p : Nat) (gs : List Gl) (ts : List Ti) (ys : List Pl) (x y t : Int) (j0 : Nat) (w : World) (ha : AsmAt w p op ys) (hn : ys.length ≤ 100000) (hj : j0 ≤ ys.length) (hlo : ∀ (k : Nat) (d : Pl), k < j0 → ys[k]? = some d → lessPt x y d.x d.y = false) (hhi : ∀ (d : Pl), ys[j0]? = some d → lessPt x y d.x d.y = true) :
    Calls Tryz.prog 90 #[.pointer (some ⟨p, op, none⟩), .agg #[.int .i64 x, .int .i64 y], .int .i64 t] w fun e w' => ∃ v, e = .returned (.agg #[v]) ∧ w'.ownsRow w.heap.size 149 3 v (insL ys j0 ⟨x, y, t⟩).length (plCells (insL ys j0 ⟨x, y, t⟩)) ∧ Below w.heap.size w w' := by
  obtain ⟨i0, hi0, hz0, hz1, hz2⟩ := info_parts infoPl
  obtain ⟨hlt, A, q, ca, c1, rda⟩ := id ha
  have hlq := rda.len
  have hq : q ≤ 100000 := by omega
  have rdaH := Lib.hid rda
  have c1H := Lib.hid c1
  have hlqH := Lib.hid hlq
  have hloH := Lib.hid hlo
  have hhiH := Lib.hid hhi
  obtain ⟨e0, he0⟩ : ∃ e : Pl, e = ⟨x, y, t⟩ := ⟨_, rfl⟩
  have he0H := Lib.hid he0
  rw [← he0]
  have hj2 : j0 ≤ q := by omega
  clear ha rda c1 hlq hlo hhi he0 hj
  go_enter Tryz.func90, Tryz.ntmps90
  go_wp2_with fail
  go_loopg [9, 8] q (fun r a d wr => ∃ (i N : Nat) (b : Bool) (A3 : Option Addr) (c3 : Nat), i + r = q ∧ a = .int .i64 (i : Int) ∧ d = .bool b ∧ Hid (b = decide (j0 < i)) ∧ Hid (N = (putR ys e0 j0 i).length) ∧ N ≤ i + 1 ∧ Hid (wr.ownsRow (w.heap.size + 3) 149 3 (.slice A3 N c3) N (plCells (putR ys e0 j0 i))) ∧ Hid (Below w.heap.size w wr) ∧ w.heap.size + 1 + 1 < wr.heap.size ∧ wr.cell? ⟨w.heap.size + 1 + 1, 0, none⟩ = some (.slice A3 N c3) ∧ wr.frozen? ⟨w.heap.size + 1 + 1, 0, none⟩ = false ∧ wr.cell? ⟨w.heap.size + 1, 0, none⟩ = some (.slice none 0 0) ∧ wr.frozen? ⟨w.heap.size + 1, 0, none⟩ = false ∧ wr.cell? ⟨w.heap.size, 0, none⟩ = some (.int .i64 x) ∧ wr.cell? ⟨w.heap.size, 1, none⟩ = some (.int .i64 y))
  case atStart => exact ⟨0, 0, false, none, 0, by omega, rfl, rfl, Lib.hid (by simp), Lib.hid (by simp [putR]), by omega, Lib.hid (by rw [show putR ys e0 j0 0 = [] by simp [putR]]; exact World.ownsRow_nil _ _ _ _), Lib.hid (by exact bel_), by simp, by go_simp, by go_simp, by go_simp, by go_simp, by go_simp, by go_simp⟩
  case round =>
    obtain ⟨i, N, b, A3, c3, hr, rfl, rfl, hb, hN, hN1, hO, hbw, hsz, d0, df, r0, rf, p0, p1⟩ := hrel
    have hsw := hbw.out.size
    have a1 := (hbw.out.cell (p := ⟨p, op, none⟩) hlt).trans c1H.out
    have l1 : p < wr.heap.size := Nat.lt_of_lt_of_le hlt hsw
    have l0 : w.heap.size < wr.heap.size := by omega
    have l2 : w.heap.size + 1 < wr.heap.size := by omega
    by_cases hiq : i < q
    · obtain ⟨d, hd⟩ : ∃ d, ys[i]? = some d := ⟨_, List.getElem?_eq_getElem (by have := hlqH.out; omega)⟩
      obtain ⟨bA, oA, rfl, hbA0, hcA⟩ := rdaH.out.ptr (by omega)
      obtain ⟨g0, g1, g2⟩ := hcA i d hd
      replace g0 := (hbw.out.cell (p := ⟨bA, oA + i * 3, none⟩) hbA0).trans g0
      replace g1 := (hbw.out.cell (p := ⟨bA, oA + i * 3 + 1, none⟩) hbA0).trans g1
      replace g2 := (hbw.out.cell (p := ⟨bA, oA + i * 3 + 2, none⟩) hbA0).trans g2
      have hbA : bA < wr.heap.size := Nat.lt_of_lt_of_le hbA0 hsw
      have hdH := Lib.hid hd
      clear hcA hd
      rcases Nat.lt_trichotomy i j0 with hij | hij | hij
      · obtain rfl : false = b := by rw [hb.out]; exact (decide_eq_false (by omega)).symm
        have hl0 := Lib.hid (hloH.out i d hij hdH.out)
        have hnx := Lib.hid (putR_lt (e := e0) hij hdH.out)
        go_wp2_with fail
        refine wp_region_ord [(0, .q), (1, .q), (2, .q), (3, .q), (4, .q), (5, .q), (6, .q), (7, .q), (8, .q), (9, .q), (10, .q), (11, .q), (12, .g), (13, .q)] (by kernel_rfl) (by kernel_rfl) ?_
        simp only [pick, List.filterMap_cons, List.filterMap_nil, List.getElem?_toArray, List.getElem?_cons_zero, List.getElem?_cons_succ, Option.map_some]
        repeat (first
          | ((with_reducible refine wpD_p (fun K hK => ?_)); go_simp; refine hK _ ?_; clear hK K)
          | ((with_reducible refine wpD_q (fun K hK => ?_)); go_simp; (first | refine hK _ ?_ | (go_bits; refine hK _ ?_) | (go_bits; go_simp; refine hK _ ?_)); clear hK K)
          | ((with_reducible refine wpD_g (fun K hK => ?_)); go_simp; refine hK _ _ ?_; clear hK K)
          | ((with_reducible refine wpD_g (fun K hK => ?_)); go_simp; refine ⟨Grew.of_alloc _, hK _ _ ?_⟩; clear hK K)
          | ((with_reducible refine wpD_g (fun K hK => ?_)); go_simp; refine ⟨Below.refl _ _, hK _ _ ?_⟩; clear hK K)
          | ((with_reducible refine wpD_g (fun K hK => ?_)); go_simp; go_at_call 137; refine (sLessPoint_at hl0.out).mono ?_; rintro e w2 ⟨rfl, hbw2⟩; refine ⟨_, rfl, hbw2, hK _ _ ?_⟩; clear hK K; obtain ⟨chbw2, fhbw2, shbw2, thbw2⟩ := bcell hbw2))
        with_reducible refine wpD_nil ?_
        have hB2 : Below wr.heap.size wr w2 := (by exact bel_)
        replace g0 := (hB2.cell (p := ⟨bA, oA + i * 3, none⟩) hbA).trans g0
        replace g1 := (hB2.cell (p := ⟨bA, oA + i * 3 + 1, none⟩) hbA).trans g1
        replace g2 := (hB2.cell (p := ⟨bA, oA + i * 3 + 2, none⟩) hbA).trans g2
        replace hbA := Nat.lt_of_lt_of_le hbA hB2.size
        replace d0 := (hB2.cell (p := ⟨w.heap.size + 1 + 1, 0, none⟩) hsz).trans d0
        replace df := (hB2.frozen (p := ⟨w.heap.size + 1 + 1, 0, none⟩) hsz).trans df
        replace r0 := (hB2.cell (p := ⟨w.heap.size + 1, 0, none⟩) l2).trans r0
        replace rf := (hB2.frozen (p := ⟨w.heap.size + 1, 0, none⟩) l2).trans rf
        replace p0 := (hB2.cell (p := ⟨w.heap.size, 0, none⟩) l0).trans p0
        replace p1 := (hB2.cell (p := ⟨w.heap.size, 1, none⟩) l0).trans p1
        replace a1 := (hB2.cell (p := ⟨p, op, none⟩) l1).trans a1
        replace hO := Lib.hid (ownsRow_below hO.out hB2)
        replace hbw := Lib.hid (hbw.out.trans (hB2.mono hsw))
        replace hsz := Nat.lt_of_lt_of_le hsz hB2.size
        replace l1 := Nat.lt_of_lt_of_le l1 hB2.size
        replace l0 := Nat.lt_of_lt_of_le l0 hB2.size
        replace l2 := Nat.lt_of_lt_of_le l2 hB2.size
        replace hsw := Nat.le_trans hsw hB2.size
        have hsb : w.heap.size + 3 ≤ w2.heap.size := by omega
        clear hB2 hbw2 chbw2 fhbw2 shbw2 thbw2
        go_wp2_with fail
        refine wp_region_ord [(0, .q), (1, .q), (2, .q), (3, .q), (4, .q), (5, .q), (6, .q), (7, .q), (8, .q), (9, .g), (10, .b), (11, .q), (12, .b)] (by kernel_rfl) (by kernel_rfl) ?_
        simp only [pick, List.filterMap_cons, List.filterMap_nil, List.getElem?_toArray, List.getElem?_cons_zero, List.getElem?_cons_succ, Option.map_some]
        repeat (first | ((with_reducible refine wpD_p (fun K hK => ?_)); go_simp; refine hK _ ?_; clear hK K) | ((with_reducible refine wpD_q (fun K hK => ?_)); go_simp; (first | refine hK _ ?_ | (go_bits; refine hK _ ?_) | (go_bits; go_simp; refine hK _ ?_)); clear hK K))
        with_reducible refine wpD_g (fun K hK => ?_)
        go_simp
        refine ⟨Grew.of_alloc _, hK _ _ ?_⟩
        clear hK K
        have hb5 : Hid (Below w2.heap.size w2 (w2.alloc (Obj.cells #[.int .i64 d.x, .int .i64 d.y, .int .i64 d.t] 149)).drew) := Lib.hid (by exact bel_)
        refine wpD_append rfl _ _ 28 rfl (w.heap.size + 3) 149 i0 (.agg #[.int .i64 0, .int .i64 0, .int .i64 0]) 3 24 Tryz.underlying28 hi0 hz0 hz1 hz2 rfl (by decide) _ N (plCells (putR ys e0 j0 i)) (by go_simp) (ownsRow_below hO.out hb5.out) ⟨w2.heap.size, 0, none⟩ 1 1 [.int .i64 d.x, .int .i64 d.y, .int .i64 d.t] (by go_simp) rfl ?hnews (fun x hx => by simp at hx; rcases hx with rfl | rfl | rfl <;> rfl) (by unfold maxLen; omega) (by omega) (by simp; omega) ?_
        case hnews =>
          have := cell_three_newA w2 (.int .i64 d.x) (.int .i64 d.y) (.int .i64 d.t) 149
          simpa using this
        intro v5 w5 hown hgrow
        obtain ⟨g5, c5, rfl⟩ := ownsRow_succ hown
        have hB5 : Below (w.heap.size + 3) w2 w5 := (hb5.out.mono hsb).grown hgrow (by simp; omega) (fun g e => (hO.out.lt g e).1)
        have hs5 : w.heap.size + 3 ≤ w5.heap.size := Nat.le_trans hsb hB5.size
        replace d0 := (hB5.cell (p := ⟨w.heap.size + 1 + 1, 0, none⟩) (by simp)).trans d0
        replace df := (hB5.frozen (p := ⟨w.heap.size + 1 + 1, 0, none⟩) (by simp)).trans df
        replace r0 := (hB5.cell (p := ⟨w.heap.size + 1, 0, none⟩) (by simp)).trans r0
        replace rf := (hB5.frozen (p := ⟨w.heap.size + 1, 0, none⟩) (by simp)).trans rf
        replace p0 := (hB5.cell (p := ⟨w.heap.size, 0, none⟩) (by simp)).trans p0
        replace p1 := (hB5.cell (p := ⟨w.heap.size, 1, none⟩) (by simp)).trans p1
        have lz : w.heap.size + 1 + 1 < w5.heap.size := by omega
        have hown' : w5.ownsRow (w.heap.size + 3) 149 3 (.slice (some ⟨g5, 0, none⟩) (N + 1) c5) (N + 1) (plCells (putR ys e0 j0 (i + 1))) := by rw [hnx.out, plCells_snoc]; exact hown
        have hO5 := Lib.hid (ownsRow_setLowA (base := w.heap.size + 3) hown' (p := ⟨w.heap.size + 1 + 1, 0, none⟩) (by simp) (.slice (some ⟨g5, 0, none⟩) (N + 1) c5))
        have hbw5 := Lib.hid ((hbw.out.trans (hB5.mono (by omega))).setCell (p := ⟨w.heap.size + 1 + 1, 0, none⟩) (by show w.heap.size ≤ w.heap.size + 1 + 1; omega) (.slice (some ⟨g5, 0, none⟩) (N + 1) c5))
        clear hown hown' hgrow hB5 hb5
        repeat (first | ((with_reducible refine wpD_p (fun K hK => ?_)); go_simp; refine hK _ ?_; clear hK K) | ((with_reducible refine wpD_q (fun K hK => ?_)); go_simp; (first | refine hK _ ?_ | (go_bits; refine hK _ ?_) | (go_bits; go_simp; refine hK _ ?_)); clear hK K))
        with_reducible refine wpD_b (fun K hK => ?_)
        go_simp
        refine hK _ _ ?_
        clear hK K
        with_reducible refine wpD_nil ?_
        go_wp2_with fail
        go_roundg (q - (i + 1))
        case measure => omega
        case rel => exact ⟨i + 1, N + 1, _, _, c5, by omega, by go_num, rfl, Lib.hid (by simp; omega), Lib.hid (by rw [hnx.out, List.length_append, ← hN.out]; rfl), by omega, hO5, hbw5, by go_simp, by go_simp, by go_simp, by go_simp, by go_simp, by go_simp, by go_simp⟩
      · obtain rfl : i = j0 := hij
        obtain rfl : false = b := by rw [hb.out]; exact (decide_eq_false (by omega)).symm
        have hl0 := Lib.hid (hhiH.out d hdH.out)
        have hnx := Lib.hid (putR_eq (e := e0) hdH.out)
        go_wp2_with fail
        refine wp_region_ord [(0, .q), (1, .q), (2, .q), (3, .q), (4, .q), (5, .q), (6, .q), (7, .q), (8, .q), (9, .q), (10, .q), (11, .q), (12, .g), (13, .q)] (by kernel_rfl) (by kernel_rfl) ?_
        simp only [pick, List.filterMap_cons, List.filterMap_nil, List.getElem?_toArray, List.getElem?_cons_zero, List.getElem?_cons_succ, Option.map_some]
        repeat (first
          | ((with_reducible refine wpD_p (fun K hK => ?_)); go_simp; refine hK _ ?_; clear hK K)
          | ((with_reducible refine wpD_q (fun K hK => ?_)); go_simp; (first | refine hK _ ?_ | (go_bits; refine hK _ ?_) | (go_bits; go_simp; refine hK _ ?_)); clear hK K)
          | ((with_reducible refine wpD_g (fun K hK => ?_)); go_simp; refine hK _ _ ?_; clear hK K)
          | ((with_reducible refine wpD_g (fun K hK => ?_)); go_simp; refine ⟨Grew.of_alloc _, hK _ _ ?_⟩; clear hK K)
          | ((with_reducible refine wpD_g (fun K hK => ?_)); go_simp; refine ⟨Below.refl _ _, hK _ _ ?_⟩; clear hK K)
          | ((with_reducible refine wpD_g (fun K hK => ?_)); go_simp; go_at_call 137; refine (sLessPoint_at hl0.out).mono ?_; rintro e w2 ⟨rfl, hbw2⟩; refine ⟨_, rfl, hbw2, hK _ _ ?_⟩; clear hK K; obtain ⟨chbw2, fhbw2, shbw2, thbw2⟩ := bcell hbw2))
        with_reducible refine wpD_nil ?_
        have hB2 : Below wr.heap.size wr w2 := (by exact bel_)
        replace g0 := (hB2.cell (p := ⟨bA, oA + i * 3, none⟩) hbA).trans g0
        replace g1 := (hB2.cell (p := ⟨bA, oA + i * 3 + 1, none⟩) hbA).trans g1
        replace g2 := (hB2.cell (p := ⟨bA, oA + i * 3 + 2, none⟩) hbA).trans g2
        replace hbA := Nat.lt_of_lt_of_le hbA hB2.size
        replace d0 := (hB2.cell (p := ⟨w.heap.size + 1 + 1, 0, none⟩) hsz).trans d0
        replace df := (hB2.frozen (p := ⟨w.heap.size + 1 + 1, 0, none⟩) hsz).trans df
        replace r0 := (hB2.cell (p := ⟨w.heap.size + 1, 0, none⟩) l2).trans r0
        replace rf := (hB2.frozen (p := ⟨w.heap.size + 1, 0, none⟩) l2).trans rf
        replace p0 := (hB2.cell (p := ⟨w.heap.size, 0, none⟩) l0).trans p0
        replace p1 := (hB2.cell (p := ⟨w.heap.size, 1, none⟩) l0).trans p1
        replace a1 := (hB2.cell (p := ⟨p, op, none⟩) l1).trans a1
        replace hO := Lib.hid (ownsRow_below hO.out hB2)
        replace hbw := Lib.hid (hbw.out.trans (hB2.mono hsw))
        replace hsz := Nat.lt_of_lt_of_le hsz hB2.size
        replace l1 := Nat.lt_of_lt_of_le l1 hB2.size
        replace l0 := Nat.lt_of_lt_of_le l0 hB2.size
        replace l2 := Nat.lt_of_lt_of_le l2 hB2.size
        replace hsw := Nat.le_trans hsw hB2.size
        have hsb : w.heap.size + 3 ≤ w2.heap.size := by omega
        clear hB2 hbw2 chbw2 fhbw2 shbw2 thbw2
        have hns : Hid (∀ j u, [Value.int .i64 x, .int .i64 y, .int .i64 t][j]? = some u → (w2.alloc (Obj.cells #[.int .i64 x, .int .i64 y, .int .i64 t] 149)).cell? ((⟨w2.heap.size, 0, none⟩ : Addr).add j) = some u) := Lib.hid (cell_three_newA w2 _ _ _ _)
        go_wp2_with (at_builtin; go_loud (refine wpList_append_own _ rfl _ _ 28 rfl (w.heap.size + 3) 149 i0 (.agg #[.int .i64 0, .int .i64 0, .int .i64 0]) 3 24 Tryz.underlying28 hi0 hz0 hz1 hz2 rfl (by decide) _ N (plCells (putR ys e0 i i)) rfl (hO.out.alloc _) ⟨w2.heap.size, 0, none⟩ 1 1 [.int .i64 x, .int .i64 y, .int .i64 t] rfl rfl hns.out (fun x hx => by simp at hx; rcases hx with rfl | rfl | rfl <;> rfl) (by unfold maxLen; omega) (by omega) (by simp; omega) ?_); intro v3 w3 hown3 hgrow3 _; obtain ⟨g3, c4, rfl⟩ := ownsRow_succ hown3; have hB3 : Below (w.heap.size + 3) w2 w3 := ((Below.refl _ w2).alloc hsb _).grown hgrow3 (by simp; omega) (fun g e => (hO.out.lt g e).1); have hs3 : w.heap.size + 3 ≤ w3.heap.size := Nat.le_trans hsb hB3.size; have u0 := (hB3.cell (p := ⟨w.heap.size + 1 + 1, 0, none⟩) (by simp)).trans d0; have u1 := (hB3.frozen (p := ⟨w.heap.size + 1 + 1, 0, none⟩) (by simp)).trans df; have u2 := (hB3.cell (p := ⟨w.heap.size + 1, 0, none⟩) (by simp)).trans r0; have u3 := (hB3.frozen (p := ⟨w.heap.size + 1, 0, none⟩) (by simp)).trans rf; have u4 := (hB3.cell (p := ⟨w.heap.size, 0, none⟩) (by simp)).trans p0; have u5 := (hB3.cell (p := ⟨w.heap.size, 1, none⟩) (by simp)).trans p1; have lz3 : w.heap.size + 1 + 1 < w3.heap.size := (by omega))
        replace g0 := (hB3.cell (p := ⟨bA, oA + i * 3, none⟩) (by simp; omega)).trans g0
        replace g1 := (hB3.cell (p := ⟨bA, oA + i * 3 + 1, none⟩) (by simp; omega)).trans g1
        replace g2 := (hB3.cell (p := ⟨bA, oA + i * 3 + 2, none⟩) (by simp; omega)).trans g2
        replace a1 := (hB3.cell (p := ⟨p, op, none⟩) (by simp; omega)).trans a1
        obtain ⟨w4, hw4⟩ : ∃ W, W = w3.setCell ⟨w.heap.size + 1 + 1, 0, none⟩ (.slice (some ⟨g3, 0, none⟩) (N + 1) c4) := ⟨_, rfl⟩
        rw [← hw4]
        have hne1 : ¬ bA = w.heap.size + 1 + 1 := by omega
        have hne2 : ¬ p = w.heap.size + 1 + 1 := by omega
        replace g0 : w4.cell? ⟨bA, oA + i * 3, none⟩ = some (.int .i64 d.x) := by rw [hw4]; exact (World.cell?_setCell_other _ _ _ _ (by simp [hne1])).trans g0
        replace g1 : w4.cell? ⟨bA, oA + i * 3 + 1, none⟩ = some (.int .i64 d.y) := by rw [hw4]; exact (World.cell?_setCell_other _ _ _ _ (by simp [hne1])).trans g1
        replace g2 : w4.cell? ⟨bA, oA + i * 3 + 2, none⟩ = some (.int .i64 d.t) := by rw [hw4]; exact (World.cell?_setCell_other _ _ _ _ (by simp [hne1])).trans g2
        replace a1 : w4.cell? ⟨p, op, none⟩ = some (.slice (some ⟨bA, oA, none⟩) q ca) := by rw [hw4]; exact (World.cell?_setCell_other _ _ _ _ (by simp [hne2])).trans a1
        replace d0 : w4.cell? ⟨w.heap.size + 1 + 1, 0, none⟩ = some (.slice (some ⟨g3, 0, none⟩) (N + 1) c4) := by rw [hw4]; go_simp
        replace df : w4.frozen? ⟨w.heap.size + 1 + 1, 0, none⟩ = false := by rw [hw4]; go_simp
        replace r0 : w4.cell? ⟨w.heap.size + 1, 0, none⟩ = some (.slice none 0 0) := by rw [hw4]; go_simp
        replace rf : w4.frozen? ⟨w.heap.size + 1, 0, none⟩ = false := by rw [hw4]; go_simp
        replace p0 : w4.cell? ⟨w.heap.size, 0, none⟩ = some (.int .i64 x) := by rw [hw4]; go_simp
        replace p1 : w4.cell? ⟨w.heap.size, 1, none⟩ = some (.int .i64 y) := by rw [hw4]; go_simp
        have hs4 : w4.heap.size = w3.heap.size := by rw [hw4]; simp
        have hNi : N ≤ i := by rw [hN.out, putR_len (by have := hlqH.out; omega), if_neg (by omega)]; exact Nat.le_refl _
        have hown4 : w3.ownsRow (w.heap.size + 3) 149 3 (.slice (some ⟨g3, 0, none⟩) (N + 1) c4) (N + 1) (plCells (putR ys e0 i i ++ [e0])) := by rw [plCells_snoc, he0H.out]; rw [he0H.out] at hown3; exact hown3
        replace hO := Lib.hid (show w4.ownsRow (w.heap.size + 3) 149 3 (.slice (some ⟨g3, 0, none⟩) (N + 1) c4) (N + 1) (plCells (putR ys e0 i i ++ [e0])) from by rw [hw4]; exact ownsRow_setLowA hown4 (p := ⟨w.heap.size + 1 + 1, 0, none⟩) (by simp) _)
        replace hbw := Lib.hid (show Below w.heap.size w w4 from by rw [hw4]; exact (hbw.out.trans (hB3.mono (by omega))).setCell (p := ⟨w.heap.size + 1 + 1, 0, none⟩) (by show w.heap.size ≤ w.heap.size + 1 + 1; omega) _)
        replace hbA : bA < w4.heap.size := by omega
        replace hsz : w.heap.size + 1 + 1 < w4.heap.size := by omega
        replace l0 : w.heap.size < w4.heap.size := by omega
        replace l1 : p < w4.heap.size := by omega
        replace l2 : w.heap.size + 1 < w4.heap.size := by omega
        replace hsb : w.heap.size + 3 ≤ w4.heap.size := by omega
        clear hown3 hgrow3 hB3 hw4 hs3 hs4 u0 u1 u2 u3 u4 u5 lz3 hown4 hns hne1 hne2
        go_wp2_with fail
        refine wp_region_ord [(0, .q), (1, .q), (2, .q), (3, .q), (4, .q), (5, .q), (6, .q), (7, .q), (8, .q), (9, .g), (10, .b), (11, .q), (12, .b)] (by kernel_rfl) (by kernel_rfl) ?_
        simp only [pick, List.filterMap_cons, List.filterMap_nil, List.getElem?_toArray, List.getElem?_cons_zero, List.getElem?_cons_succ, Option.map_some]
        repeat (first | ((with_reducible refine wpD_p (fun K hK => ?_)); go_simp; refine hK _ ?_; clear hK K) | ((with_reducible refine wpD_q (fun K hK => ?_)); go_simp; (first | refine hK _ ?_ | (go_bits; refine hK _ ?_) | (go_bits; go_simp; refine hK _ ?_)); clear hK K))
        with_reducible refine wpD_g (fun K hK => ?_)
        go_simp
        refine ⟨Grew.of_alloc _, hK _ _ ?_⟩
        clear hK K
        have hb5 : Hid (Below w4.heap.size w4 (w4.alloc (Obj.cells #[.int .i64 d.x, .int .i64 d.y, .int .i64 d.t] 149)).drew) := Lib.hid (by exact bel_)
        refine wpD_append rfl _ _ 28 rfl (w.heap.size + 3) 149 i0 (.agg #[.int .i64 0, .int .i64 0, .int .i64 0]) 3 24 Tryz.underlying28 hi0 hz0 hz1 hz2 rfl (by decide) _ (N + 1) (plCells (putR ys e0 i i ++ [e0])) (by go_simp) (ownsRow_below hO.out hb5.out) ⟨w4.heap.size, 0, none⟩ 1 1 [.int .i64 d.x, .int .i64 d.y, .int .i64 d.t] (by go_simp) rfl ?hnews (fun x hx => by simp at hx; rcases hx with rfl | rfl | rfl <;> rfl) (by unfold maxLen; omega) (by omega) (by simp; omega) ?_
        case hnews =>
          have := cell_three_newA w4 (.int .i64 d.x) (.int .i64 d.y) (.int .i64 d.t) 149
          simpa using this
        intro v5 w5 hown hgrow
        obtain ⟨g5, c5, rfl⟩ := ownsRow_succ hown
        have hB5 : Below (w.heap.size + 3) w4 w5 := (hb5.out.mono hsb).grown hgrow (by simp; omega) (fun g e => (hO.out.lt g e).1)
        have hs5 : w.heap.size + 3 ≤ w5.heap.size := Nat.le_trans hsb hB5.size
        replace d0 := (hB5.cell (p := ⟨w.heap.size + 1 + 1, 0, none⟩) (by simp)).trans d0
        replace df := (hB5.frozen (p := ⟨w.heap.size + 1 + 1, 0, none⟩) (by simp)).trans df
        replace r0 := (hB5.cell (p := ⟨w.heap.size + 1, 0, none⟩) (by simp)).trans r0
        replace rf := (hB5.frozen (p := ⟨w.heap.size + 1, 0, none⟩) (by simp)).trans rf
        replace p0 := (hB5.cell (p := ⟨w.heap.size, 0, none⟩) (by simp)).trans p0
        replace p1 := (hB5.cell (p := ⟨w.heap.size, 1, none⟩) (by simp)).trans p1
        have lz : w.heap.size + 1 + 1 < w5.heap.size := by omega
        have hown' : w5.ownsRow (w.heap.size + 3) 149 3 (.slice (some ⟨g5, 0, none⟩) ((N + 1) + 1) c5) ((N + 1) + 1) (plCells (putR ys e0 i (i + 1))) := by rw [hnx.out, plCells_snoc]; exact hown
        have hO5 := Lib.hid (ownsRow_setLowA (base := w.heap.size + 3) hown' (p := ⟨w.heap.size + 1 + 1, 0, none⟩) (by simp) (.slice (some ⟨g5, 0, none⟩) ((N + 1) + 1) c5))
        have hbw5 := Lib.hid ((hbw.out.trans (hB5.mono (by omega))).setCell (p := ⟨w.heap.size + 1 + 1, 0, none⟩) (by show w.heap.size ≤ w.heap.size + 1 + 1; omega) (.slice (some ⟨g5, 0, none⟩) ((N + 1) + 1) c5))
        clear hown hown' hgrow hB5 hb5
        repeat (first | ((with_reducible refine wpD_p (fun K hK => ?_)); go_simp; refine hK _ ?_; clear hK K) | ((with_reducible refine wpD_q (fun K hK => ?_)); go_simp; (first | refine hK _ ?_ | (go_bits; refine hK _ ?_) | (go_bits; go_simp; refine hK _ ?_)); clear hK K))
        with_reducible refine wpD_b (fun K hK => ?_)
        go_simp
        refine hK _ _ ?_
        clear hK K
        with_reducible refine wpD_nil ?_
        go_wp2_with fail
        go_roundg (q - (i + 1))
        case measure => omega
        case rel => exact ⟨i + 1, (N + 1) + 1, _, _, c5, by omega, by go_num, rfl, Lib.hid (by simp), Lib.hid (by rw [hnx.out, List.length_append, List.length_append, ← hN.out]; rfl), by omega, hO5, hbw5, by go_simp, by go_simp, by go_simp, by go_simp, by go_simp, by go_simp, by go_simp⟩
      · obtain rfl : true = b := by rw [hb.out]; exact (decide_eq_true (by omega)).symm
        have hnx := Lib.hid (putR_gt (e := e0) hij hdH.out)
        go_wp2_with fail
        refine wp_region_ord [(0, .q), (1, .q), (2, .q), (3, .q), (4, .q), (5, .q), (6, .q), (7, .q), (8, .q), (9, .q), (10, .q), (11, .q), (12, .g), (13, .q)] (by kernel_rfl) (by kernel_rfl) ?_
        simp only [pick, List.filterMap_cons, List.filterMap_nil, List.getElem?_toArray, List.getElem?_cons_zero, List.getElem?_cons_succ, Option.map_some]
        repeat (first
          | ((with_reducible refine wpD_p (fun K hK => ?_)); go_simp; refine hK _ ?_; clear hK K)
          | ((with_reducible refine wpD_q (fun K hK => ?_)); go_simp; (first | refine hK _ ?_ | (go_bits; refine hK _ ?_) | (go_bits; go_simp; refine hK _ ?_)); clear hK K)
          | ((with_reducible refine wpD_g (fun K hK => ?_)); go_simp; refine hK _ _ ?_; clear hK K)
          | ((with_reducible refine wpD_g (fun K hK => ?_)); go_simp; refine ⟨Grew.of_alloc _, hK _ _ ?_⟩; clear hK K)
          | ((with_reducible refine wpD_g (fun K hK => ?_)); go_simp; refine ⟨Below.refl _ _, hK _ _ ?_⟩; clear hK K))
        with_reducible refine wpD_nil ?_
        obtain ⟨w2, hw2⟩ : ∃ W, W = wr.drew := ⟨_, rfl⟩
        rw [← hw2]
        have hB2 : Below wr.heap.size wr w2 := (by rw [hw2]; exact Below.drew (Below.refl _ _))
        replace g0 := (hB2.cell (p := ⟨bA, oA + i * 3, none⟩) hbA).trans g0
        replace g1 := (hB2.cell (p := ⟨bA, oA + i * 3 + 1, none⟩) hbA).trans g1
        replace g2 := (hB2.cell (p := ⟨bA, oA + i * 3 + 2, none⟩) hbA).trans g2
        replace hbA := Nat.lt_of_lt_of_le hbA hB2.size
        replace d0 := (hB2.cell (p := ⟨w.heap.size + 1 + 1, 0, none⟩) hsz).trans d0
        replace df := (hB2.frozen (p := ⟨w.heap.size + 1 + 1, 0, none⟩) hsz).trans df
        replace r0 := (hB2.cell (p := ⟨w.heap.size + 1, 0, none⟩) l2).trans r0
        replace rf := (hB2.frozen (p := ⟨w.heap.size + 1, 0, none⟩) l2).trans rf
        replace p0 := (hB2.cell (p := ⟨w.heap.size, 0, none⟩) l0).trans p0
        replace p1 := (hB2.cell (p := ⟨w.heap.size, 1, none⟩) l0).trans p1
        replace a1 := (hB2.cell (p := ⟨p, op, none⟩) l1).trans a1
        replace hO := Lib.hid (ownsRow_below hO.out hB2)
        replace hbw := Lib.hid (hbw.out.trans (hB2.mono hsw))
        replace hsz := Nat.lt_of_lt_of_le hsz hB2.size
        replace l1 := Nat.lt_of_lt_of_le l1 hB2.size
        replace l0 := Nat.lt_of_lt_of_le l0 hB2.size
        replace l2 := Nat.lt_of_lt_of_le l2 hB2.size
        replace hsw := Nat.le_trans hsw hB2.size
        have hsb : w.heap.size + 3 ≤ w2.heap.size := by omega
        clear hB2 hw2
        go_wp2_with fail
        refine wp_region_ord [(0, .q), (1, .q), (2, .q), (3, .q), (4, .q), (5, .q), (6, .q), (7, .q), (8, .q), (9, .g), (10, .b), (11, .q), (12, .b)] (by kernel_rfl) (by kernel_rfl) ?_
        simp only [pick, List.filterMap_cons, List.filterMap_nil, List.getElem?_toArray, List.getElem?_cons_zero, List.getElem?_cons_succ, Option.map_some]
        repeat (first | ((with_reducible refine wpD_p (fun K hK => ?_)); go_simp; refine hK _ ?_; clear hK K) | ((with_reducible refine wpD_q (fun K hK => ?_)); go_simp; (first | refine hK _ ?_ | (go_bits; refine hK _ ?_) | (go_bits; go_simp; refine hK _ ?_)); clear hK K))
        with_reducible refine wpD_g (fun K hK => ?_)
        go_simp
        refine ⟨Grew.of_alloc _, hK _ _ ?_⟩
        clear hK K
        have hb5 : Hid (Below w2.heap.size w2 (w2.alloc (Obj.cells #[.int .i64 d.x, .int .i64 d.y, .int .i64 d.t] 149)).drew) := Lib.hid (by exact bel_)
        refine wpD_append rfl _ _ 28 rfl (w.heap.size + 3) 149 i0 (.agg #[.int .i64 0, .int .i64 0, .int .i64 0]) 3 24 Tryz.underlying28 hi0 hz0 hz1 hz2 rfl (by decide) _ N (plCells (putR ys e0 j0 i)) (by go_simp) (ownsRow_below hO.out hb5.out) ⟨w2.heap.size, 0, none⟩ 1 1 [.int .i64 d.x, .int .i64 d.y, .int .i64 d.t] (by go_simp) rfl ?hnews (fun x hx => by simp at hx; rcases hx with rfl | rfl | rfl <;> rfl) (by unfold maxLen; omega) (by omega) (by simp; omega) ?_
        case hnews =>
          have := cell_three_newA w2 (.int .i64 d.x) (.int .i64 d.y) (.int .i64 d.t) 149
          simpa using this
        intro v5 w5 hown hgrow
        obtain ⟨g5, c5, rfl⟩ := ownsRow_succ hown
        have hB5 : Below (w.heap.size + 3) w2 w5 := (hb5.out.mono hsb).grown hgrow (by simp; omega) (fun g e => (hO.out.lt g e).1)
        have hs5 : w.heap.size + 3 ≤ w5.heap.size := Nat.le_trans hsb hB5.size
        replace d0 := (hB5.cell (p := ⟨w.heap.size + 1 + 1, 0, none⟩) (by simp)).trans d0
        replace df := (hB5.frozen (p := ⟨w.heap.size + 1 + 1, 0, none⟩) (by simp)).trans df
        replace r0 := (hB5.cell (p := ⟨w.heap.size + 1, 0, none⟩) (by simp)).trans r0
        replace rf := (hB5.frozen (p := ⟨w.heap.size + 1, 0, none⟩) (by simp)).trans rf
        replace p0 := (hB5.cell (p := ⟨w.heap.size, 0, none⟩) (by simp)).trans p0
        replace p1 := (hB5.cell (p := ⟨w.heap.size, 1, none⟩) (by simp)).trans p1
        have lz : w.heap.size + 1 + 1 < w5.heap.size := by omega
        have hown' : w5.ownsRow (w.heap.size + 3) 149 3 (.slice (some ⟨g5, 0, none⟩) (N + 1) c5) (N + 1) (plCells (putR ys e0 j0 (i + 1))) := by rw [hnx.out, plCells_snoc]; exact hown
        have hO5 := Lib.hid (ownsRow_setLowA (base := w.heap.size + 3) hown' (p := ⟨w.heap.size + 1 + 1, 0, none⟩) (by simp) (.slice (some ⟨g5, 0, none⟩) (N + 1) c5))
        have hbw5 := Lib.hid ((hbw.out.trans (hB5.mono (by omega))).setCell (p := ⟨w.heap.size + 1 + 1, 0, none⟩) (by show w.heap.size ≤ w.heap.size + 1 + 1; omega) (.slice (some ⟨g5, 0, none⟩) (N + 1) c5))
        clear hown hown' hgrow hB5 hb5
        repeat (first | ((with_reducible refine wpD_p (fun K hK => ?_)); go_simp; refine hK _ ?_; clear hK K) | ((with_reducible refine wpD_q (fun K hK => ?_)); go_simp; (first | refine hK _ ?_ | (go_bits; refine hK _ ?_) | (go_bits; go_simp; refine hK _ ?_)); clear hK K))
        with_reducible refine wpD_b (fun K hK => ?_)
        go_simp
        refine hK _ _ ?_
        clear hK K
        with_reducible refine wpD_nil ?_
        go_wp2_with fail
        go_roundg (q - (i + 1))
        case measure => omega
        case rel => exact ⟨i + 1, N + 1, _, _, c5, by omega, by go_num, rfl, Lib.hid (by simp; omega), Lib.hid (by rw [hnx.out, List.length_append, ← hN.out]; rfl), by omega, hO5, hbw5, by go_simp, by go_simp, by go_simp, by go_simp, by go_simp, by go_simp, by go_simp⟩
    · obtain rfl : q = i := by omega
      have hend := hlqH.out
      by_cases hjq : j0 < q
      · obtain rfl : true = b := by rw [hb.out]; exact (decide_eq_true hjq).symm
        have hfin := putR_end (ys := ys) (e := e0) (j0 := j0) (by omega)
        rw [hend] at hfin
        have hfinH := Lib.hid hfin
        clear hfin
        go_wp2_with fail
        refine bodyPost_ret (v := .agg #[.slice A3 N c3]) (by simp only [results, Tryz.results90]; go_simp) rfl ?_
        refine ⟨_, rfl, ?_, hbw.out.setCell (p := ⟨w.heap.size + 1, 0, none⟩) (by show w.heap.size ≤ w.heap.size + 1; omega) _⟩
        rw [← hfinH.out, ← hN.out]
        exact ownsRow_lowA (ownsRow_setLowA hO.out (p := ⟨w.heap.size + 1, 0, none⟩) (by simp) _) (by omega)
      · obtain rfl : false = b := by rw [hb.out]; exact (decide_eq_false hjq).symm
        have hfin := putR_end2 (ys := ys) (e := e0) (j0 := j0) (by omega)
        rw [hend] at hfin
        have hfinH := Lib.hid hfin
        clear hfin
        have hsb : w.heap.size + 3 ≤ wr.heap.size := by omega
        have hns : Hid (∀ j u, [Value.int .i64 x, .int .i64 y, .int .i64 t][j]? = some u → (wr.alloc (Obj.cells #[.int .i64 x, .int .i64 y, .int .i64 t] 149)).cell? ((⟨wr.heap.size, 0, none⟩ : Addr).add j) = some u) := Lib.hid (cell_three_newA wr _ _ _ _)
        go_wp2_with (at_builtin; go_loud (refine wpList_append_own _ rfl _ _ 28 rfl (w.heap.size + 3) 149 i0 (.agg #[.int .i64 0, .int .i64 0, .int .i64 0]) 3 24 Tryz.underlying28 hi0 hz0 hz1 hz2 rfl (by decide) _ N (plCells (putR ys e0 j0 q)) rfl (hO.out.alloc _) ⟨wr.heap.size, 0, none⟩ 1 1 [.int .i64 x, .int .i64 y, .int .i64 t] rfl rfl hns.out (fun x hx => by simp at hx; rcases hx with rfl | rfl | rfl <;> rfl) (by unfold maxLen; omega) (by omega) (by simp; omega) ?_); intro v3 w3 hown3 hgrow3 _; obtain ⟨g3, c4, rfl⟩ := ownsRow_succ hown3; have hB3 : Below (w.heap.size + 3) wr w3 := ((Below.refl _ wr).alloc hsb _).grown hgrow3 (by simp; omega) (fun g e => (hO.out.lt g e).1); have hs3 : w.heap.size + 3 ≤ w3.heap.size := Nat.le_trans hsb hB3.size; have u0 := (hB3.cell (p := ⟨w.heap.size + 1 + 1, 0, none⟩) (by simp)).trans d0; have u1 := (hB3.frozen (p := ⟨w.heap.size + 1 + 1, 0, none⟩) (by simp)).trans df; have u2 := (hB3.cell (p := ⟨w.heap.size + 1, 0, none⟩) (by simp)).trans r0; have u3 := (hB3.frozen (p := ⟨w.heap.size + 1, 0, none⟩) (by simp)).trans rf; have u4 := (hB3.cell (p := ⟨w.heap.size, 0, none⟩) (by simp)).trans p0; have u5 := (hB3.cell (p := ⟨w.heap.size, 1, none⟩) (by simp)).trans p1; have lz3 : w.heap.size + 1 + 1 < w3.heap.size := (by omega); have lz4 : w.heap.size + 1 < w3.heap.size := (by omega))
        refine bodyPost_ret (v := .agg #[.slice (some ⟨g3, 0, none⟩) (N + 1) c4]) (by simp only [results, Tryz.results90]; go_simp) rfl ?_
        refine ⟨_, rfl, ?_, ((hbw.out.trans (hB3.mono (by omega))).setCell (p := ⟨w.heap.size + 1 + 1, 0, none⟩) (by show w.heap.size ≤ w.heap.size + 1 + 1; omega) _).setCell (p := ⟨w.heap.size + 1, 0, none⟩) (by show w.heap.size ≤ w.heap.size + 1; omega) _⟩
        have hown4 : w3.ownsRow (w.heap.size + 3) 149 3 (.slice (some ⟨g3, 0, none⟩) (N + 1) c4) (N + 1) (plCells (putR ys e0 j0 q ++ [e0])) := by rw [plCells_snoc, he0H.out]; rw [he0H.out] at hown3; exact hown3
        rw [← hfinH.out, List.length_append, ← hN.out]
        exact ownsRow_lowA (ownsRow_setLowA (ownsRow_setLowA hown4 (p := ⟨w.heap.size + 1 + 1, 0, none⟩) (by simp) _) (p := ⟨w.heap.size + 1, 0, none⟩) (by simp) _) (by omega)
end Go.Proofs.YtmhgjgclclnmaaaGreat
