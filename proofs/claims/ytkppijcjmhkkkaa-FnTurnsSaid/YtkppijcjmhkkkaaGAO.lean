import Derived.Test.YtkppijcjmhkkkaaGAH
import Derived.Test.YtkppijcjmhkkkaaGAN
import Derived.Test.YtkppijcjmhkkkaaGAK
import Derived.Test.YtkppijcjmhkkkaaGAJ
import Derived.Lib.SliceRun
set_option linter.unusedSimpArgs false
set_option linter.unusedVariables false
/- Plain: the least rectangle of points. -/

namespace Go.Proofs.Ytkppijcjmhkkkaa
open Go.RowKit
def mn (x y : Int) : Int := if y < x then y else x
def mx (x y : Int) : Int := if x < y then y else x
theorem mn_self (x : Int) : mn x x = x := by unfold mn; split <;> rfl
theorem mx_self (x : Int) : mx x x = x := by unfold mx; split <;> rfl
structure Bnd where
  lx : Int
  ly : Int
  hx : Int
  hy : Int
def ptA (ps : List Pt) (k : Nat) : Pt := (ps[k]?).getD ⟨0, 0⟩
/-- the least rectangle of the first point and of the first k points -/
def bxN (ps : List Pt) : Nat → Bnd
  | 0 => ⟨(ptA ps 0).x, (ptA ps 0).y, (ptA ps 0).x, (ptA ps 0).y⟩
  | k + 1 => ⟨mn (bxN ps k).lx (ptA ps k).x, mn (bxN ps k).ly (ptA ps k).y, mx (bxN ps k).hx (ptA ps k).x, mx (bxN ps k).hy (ptA ps k).y⟩
theorem bxN_one (ps : List Pt) : bxN ps 1 = bxN ps 0 := by
  simp only [bxN, mn_self, mx_self]
theorem mn_rng {x y : Int} (hx : -60 ≤ x ∧ x ≤ 60) (hy : -60 ≤ y ∧ y ≤ 60) : -60 ≤ mn x y ∧ mn x y ≤ 60 := by unfold mn; split <;> assumption
theorem mx_rng {x y : Int} (hx : -60 ≤ x ∧ x ≤ 60) (hy : -60 ≤ y ∧ y ≤ 60) : -60 ≤ mx x y ∧ mx x y ≤ 60 := by unfold mx; split <;> assumption
theorem bxN_rng {ps : List Pt} (h : ∀ k, (-60 ≤ (ptA ps k).x ∧ (ptA ps k).x ≤ 60) ∧ (-60 ≤ (ptA ps k).y ∧ (ptA ps k).y ≤ 60)) : ∀ k, (-60 ≤ (bxN ps k).lx ∧ (bxN ps k).lx ≤ 60) ∧ (-60 ≤ (bxN ps k).ly ∧ (bxN ps k).ly ≤ 60) ∧ (-60 ≤ (bxN ps k).hx ∧ (bxN ps k).hx ≤ 60) ∧ (-60 ≤ (bxN ps k).hy ∧ (bxN ps k).hy ≤ 60)
  | 0 => ⟨(h 0).1, (h 0).2, (h 0).1, (h 0).2⟩
  | k + 1 => by
    obtain ⟨a, b, c, d⟩ := bxN_rng h k
    exact ⟨mn_rng a (h k).1, mn_rng b (h k).2, mx_rng c (h k).1, mx_rng d (h k).2⟩
def areaI (b : Bnd) : Int := (b.hx - b.lx + 1) * (b.hy - b.ly + 1)
theorem areaI_rng {b : Bnd} (h1 : -60 ≤ b.lx ∧ b.lx ≤ 60) (h2 : -60 ≤ b.ly ∧ b.ly ≤ 60) (h3 : -60 ≤ b.hx ∧ b.hx ≤ 60) (h4 : -60 ≤ b.hy ∧ b.hy ≤ 60) : -20000 ≤ areaI b ∧ areaI b ≤ 20000 := by
  unfold areaI
  obtain ⟨u, hu⟩ : ∃ u, b.hx - b.lx + 1 = u := ⟨_, rfl⟩
  obtain ⟨v, hv⟩ : ∃ v, b.hy - b.ly + 1 = v := ⟨_, rfl⟩
  rw [hu, hv]
  have u1 : -119 ≤ u := by omega
  have u2 : u ≤ 121 := by omega
  have v1 : -119 ≤ v := by omega
  have v2 : v ≤ 121 := by omega
  have a1 : 0 ≤ (u + 121) * (v + 121) := Int.mul_nonneg (by omega) (by omega)
  have a2 : 0 ≤ (121 - u) * (121 - v) := Int.mul_nonneg (by omega) (by omega)
  have a3 : 0 ≤ (u + 121) * (121 - v) := Int.mul_nonneg (by omega) (by omega)
  have a4 : 0 ≤ (121 - u) * (v + 121) := Int.mul_nonneg (by omega) (by omega)
  have e1 : (u + 121) * (v + 121) = u * v + 121 * u + 121 * v + 14641 := by rw [Int.add_mul, Int.mul_add, Int.mul_add]; omega
  have e2 : (121 - u) * (121 - v) = u * v - 121 * u - 121 * v + 14641 := by rw [Int.sub_mul, Int.mul_sub, Int.mul_sub]; omega
  have e3 : (u + 121) * (121 - v) = -(u * v) + 121 * u - 121 * v + 14641 := by rw [Int.add_mul, Int.mul_sub, Int.mul_sub]; omega
  have e4 : (121 - u) * (v + 121) = -(u * v) - 121 * u + 121 * v + 14641 := by rw [Int.sub_mul, Int.mul_add, Int.mul_add]; omega
  omega
end Go.Proofs.Ytkppijcjmhkkkaa
/- Walk: slices.Compact at a row of points that a call has made. -/



namespace Go.Proofs.Ytkppijcjmhkkkaa
open Go.RowKit Go.Shelf
attribute [local go_sem] BelowBy.cell BelowBy.cell_drew stillUpon givesUpon BelowBy.cell_drew2 BelowBy.cell_drew3

/-- the first of each run of equal points; q went before -/
def dedP : Option Pt → List Pt → List Pt
  | _, [] => []
  | q, a :: l => if q = some a then dedP (some a) l else a :: dedP (some a) l
theorem compact_ded (l : List Pt) : ∀ a : Pt, compactP (a :: l) = a :: dedP (some a) l := by
  induction l with
  | nil => intro a; rfl
  | cons b m ih =>
    intro a
    unfold compactP dedP
    by_cases h : a = b
    · subst h
      rw [if_pos rfl, if_pos rfl, ih]
    · have h2 : ¬ (some a = some b) := fun e => h (Option.some.inj e)
      rw [if_neg h, if_neg h2, ih]
theorem ded_compact (l : List Pt) : dedP none l = compactP l := by
  cases l with
  | nil => rfl
  | cons a l =>
    rw [compact_ded]
    show (if (none : Option Pt) = some a then dedP (some a) l else a :: dedP (some a) l) = _
    rw [if_neg (by simp)]
def lastQ (q : Option Pt) (L : List Pt) : Option Pt := match L.getLast? with
  | some a => some a
  | none => q
theorem ded_snoc (e : Pt) (L : List Pt) : ∀ q, dedP q (L ++ [e]) = dedP q L ++ (if lastQ q L = some e then [] else [e]) := by
  induction L with
  | nil =>
    intro q
    show dedP q [e] = [] ++ (if q = some e then [] else [e])
    unfold dedP
    split <;> simp [dedP]
  | cons a l ih =>
    intro q
    have hl : lastQ q (a :: l) = lastQ (some a) l := by
      unfold lastQ
      cases l with
      | nil => rfl
      | cons b m => rw [List.getLast?_cons_cons]; cases h : (b :: m).getLast? <;> simp_all
    rw [hl, List.cons_append]
    unfold dedP
    split
    · rw [ih]
    · rw [ih]; rfl
/-- of the first k -/
def keepD (bs : List Pt) (k : Nat) : List Pt := dedP none (bs.take k)
section
variable {bs : List Pt} {k : Nat} {d e : Pt}
theorem keepD_snoc (hk : bs[k]? = some e) : keepD bs (k + 1) = keepD bs k ++ (if lastQ none (bs.take k) = some e then [] else [e]) := by
  obtain ⟨hk', rfl⟩ := List.getElem?_eq_some_iff.1 hk
  unfold keepD; rw [List.take_succ_eq_append_getElem hk', ded_snoc]
theorem lastQ_take (hd : bs[k]? = some d) : lastQ none (bs.take (k + 1)) = some d := by
  obtain ⟨hk', rfl⟩ := List.getElem?_eq_some_iff.1 hd
  unfold lastQ; rw [List.take_succ_eq_append_getElem hk', List.getLast?_append]; simp
theorem keepD_one (h0 : bs[0]? = some e) : keepD bs 1 = [e] := by
  rw [keepD_snoc h0]; unfold keepD lastQ; simp [dedP]
theorem keepD_yes (hd : bs[k]? = some d) (he : bs[k + 1]? = some e) (h : e ≠ d) : keepD bs (k + 2) = keepD bs (k + 1) ++ [e] := by
  rw [keepD_snoc he, lastQ_take hd, if_neg (fun x => h (Option.some.inj x).symm)]
theorem keepD_no (hd : bs[k]? = some d) (he : bs[k + 1]? = some e) (h : e = d) : keepD bs (k + 2) = keepD bs (k + 1) := by
  rw [keepD_snoc he, lastQ_take hd, if_pos (by rw [h]), List.append_nil]
theorem keepD_len (bs : List Pt) : ∀ k, (keepD bs k).length ≤ k := by
  have : ∀ (l : List Pt) q, (dedP q l).length ≤ l.length := by
    intro l
    induction l with
    | nil => intro q; exact Nat.le_refl _
    | cons a l ih =>
      intro q; unfold dedP
      split
      · exact Nat.le_trans (ih _) (by simp)
      · simp only [List.length_cons]; have := ih (some a); omega
  exact fun k => Nat.le_trans (this _ _) (List.length_take_le _ _)
theorem keepD_all (bs : List Pt) : keepD bs bs.length = compactP bs := by unfold keepD; rw [List.take_length, ded_compact]
end
theorem pt_cases (e d : Pt) : e = d ∨ (e.x = d.x ∧ (e.y == d.y) = false) ∨ (e.x == d.x) = false := by
  by_cases hx : e.x = d.x
  · by_cases hy : e.y = d.y
    · left; cases e; cases d; simp only at hx hy; subst hx; subst hy; rfl
    · right; left; exact ⟨hx, by simpa using hy⟩
  · right; right; simpa using hx
set_option maxHeartbeats 1000000 in
theorem CompactNil_any (c : Nat) (w : World) :
    Calls Try.prog 50 #[.slice none 0 c] w fun e w' => e = .returned (.slice none 0 c) ∧ Below w.heap.size w w' := by
  go_enter Try.func50, Try.ntmps50
  go_wp2
  go_ret
  exact ⟨rfl, bl_refl _⟩
set_option maxRecDepth 100000 in
set_option maxHeartbeats 4000000 in
theorem CompactPt_any (base g cap : Nat) (bs : List Pt) (w : World) (hrow : w.ownsRow base 49 2 (.slice (some ⟨g, 0, none⟩) bs.length cap) bs.length (ptCells bs)) (hn0 : 0 < bs.length) (hn : bs.length ≤ 1000000) :
    Calls Try.prog 50 #[.slice (some ⟨g, 0, none⟩) bs.length cap] w (DelPt base g w (compactP bs)) := by
  rw [← keepD_all bs]
  have rdb : RdSl 2 RPt w (some ⟨g, 0, none⟩) bs.length bs := by
    obtain ⟨A, c, e, hr⟩ := rdPt_of_row hrow
    injection e with e1
    subst e1
    exact hr
  obtain ⟨n, hnn⟩ : ∃ n, bs.length = n := ⟨_, rfl⟩
  rw [hnn] at hn0 hn rdb hrow
  rw [hnn]
  have hnnH := Lib.hid hnn
  have rowH := Lib.hid hrow
  have rdH := Lib.hid rdb
  obtain ⟨b0, hb0⟩ : ∃ e, bs[0]? = some e := ⟨_, List.getElem?_eq_getElem (by rw [hnn]; exact hn0)⟩
  have hk1 := Lib.hid (show keepD bs 1 = bs.take 1 by rw [keepD_one hb0]; cases bs with
    | nil => cases hb0
    | cons a l => simp at hb0; subst hb0; rfl)
  rcases hrow.2 with ⟨h0, h0'⟩ | ⟨g', cap', cur, hv, hb, hh, hnc, hm, hs, ht⟩
  · omega
  obtain ⟨rfl, rfl⟩ : g = g' ∧ cap = cap' := by injection hv with a1 a2 a3; injection a1 with a1; injection a1 with a1; exact ⟨a1, a3⟩
  have hgl : g < w.heap.size := (Array.getElem?_eq_some_iff.1 hh).1
  have hrow1 : w.rowIs g 49 (cap * 2) (fun i => cur.getD i undef) := by
    refine ⟨cur, hh, hs, fun i hi => ?_⟩
    have : i < cur.size := by omega
    simp [this]
  have hget : ∀ q b, bs[q]? = some b → q < n → cur.getD (q * 2) undef = .int .i64 b.x ∧ cur.getD (q * 2 + 1) undef = .int .i64 b.y := by
    intro q b hq hqn
    obtain ⟨x0, x1⟩ := ptCells_get bs q b hq
    rw [← ht, List.getElem?_take_of_lt (by omega)] at x0 x1
    simp only [Array.getElem?_toList] at x0 x1
    simp [Array.getD_eq_getD_getElem?, x0, x1]
  obtain ⟨F0, hF0⟩ : ∃ F : Nat → Pt, ∀ q b, bs[q]? = some b → F q = b := ⟨fun q => match bs[q]? with | some b => b | none => ⟨0, 0⟩, fun q b h => by simp only [h]⟩
  have hf0 : Hid (∀ q, q < n → (fun i => cur.getD i undef) (q * 2) = .int .i64 (F0 q).x ∧ (fun i => cur.getD i undef) (q * 2 + 1) = .int .i64 (F0 q).y) := Lib.hid fun q hq => by
    obtain ⟨b, hqb⟩ : ∃ b, bs[q]? = some b := ⟨_, List.getElem?_eq_getElem (by rw [hnnH.out]; exact hq)⟩
    rw [hF0 q b hqb]
    exact hget q b hqb hq
  have hF0H := Lib.hid hF0
  have hrow1H := Lib.hid hrow1
  have hmO := Lib.hid hm
  have hbg := Lib.hid hb
  have hptn : ∀ q, q < n → ∃ e, bs[q]? = some e := fun q hq => ⟨_, List.getElem?_eq_getElem (by rw [hnnH.out]; exact hq)⟩
  have hptH := Lib.hid hptn
  clear rdb hrow hnn hb0 hb hh hm hs ht hget hF0 hrow1 hv hptn
  by_cases hn2 : n < 2
  · obtain rfl : n = 1 := by omega
    go_enter Try.func50, Try.ntmps50
    go_wp2
    go_ret
    refine DelPt.of ?_ ?_ (Gb.refl g w)
    · rw [hk1.out, List.length_take, hnnH.out]; rfl
    · rw [hk1.out, List.take_of_length_le (by rw [hnnH.out]; exact Nat.le_refl _)]; exact rowH.out
  · go_enter Try.func50, Try.ntmps50
    go_wp2
    go_loopg [3] (n - 1) (fun r x wr => ∃ k : Nat, k + r = n ∧ 1 ≤ k ∧ x = .int .i64 (k : Int) ∧ Hid (keepD bs k = bs.take k) ∧ Hid (Below w.heap.size w wr))
    case atStart => exact ⟨1, by omega, by omega, by go_num, hk1, Lib.hid (bl_refl _)⟩
    case round =>
      obtain ⟨k, hk, hk0, rfl, hkeep, hbw⟩ := hrel
      obtain ⟨j, hkj⟩ : ∃ j, k = j + 1 := ⟨k - 1, by omega⟩
      have hrw := hrow1H.out.of_block (hbw.out.block g hgl)
      have hgw : g < wr.heap.size := hrw.lt
      by_cases hlt : k < n
      · obtain ⟨e, he⟩ := hptH.out k hlt
        obtain ⟨d, hd⟩ := hptH.out j (by omega)
        obtain ⟨v0, v1⟩ := hf0.out k hlt
        obtain ⟨u0, u1⟩ := hf0.out j (by omega)
        rw [hF0H.out _ _ he] at v0 v1
        rw [hF0H.out _ _ hd] at u0 u1
        have c0 := hrw.cell (i := k * 2) (by omega)
        have c1 := hrw.cell (i := k * 2 + 1) (by omega)
        have d0 := hrw.cell (i := j * 2) (by omega)
        have d1 := hrw.cell (i := j * 2 + 1) (by omega)
        rw [v0] at c0
        rw [v1] at c1
        rw [u0] at d0
        rw [u1] at d1
        have hgm : (k : Int) - 1 = (j : Int) := by omega
        have hwr : IntKind.i64.wrap (j : Int) = (j : Int) := wrap_in (by omega) (by omega)
        have hjn : j < n := by omega
        have hjn2 : (j : Int) < (n : Int) := by omega
        have hkn2 : (k : Int) < (n : Int) := by omega
        have hkjH := Lib.hid hkj
        have heH := Lib.hid (show bs[j + 1]? = some e by rw [← hkj]; exact he)
        have hdH := Lib.hid hd
        have hrwH := Lib.hid hrw
        have hkeepH := Lib.hid (show keepD bs (j + 1) = bs.take (j + 1) by rw [← hkj]; exact hkeep.out)
        have htk := Lib.hid (show bs.take (k + 1) = bs.take (j + 1) ++ [e] by rw [List.take_add_one, he, hkj]; rfl)
        clear v0 v1 u0 u1 he hd hrw hkj hkeep
        rcases pt_cases e d with rfl | ⟨hx, hy⟩ | hx
        · have hnx := Lib.hid (keepD_no hdH.out heH.out rfl)
          have hil := Lib.hid (show k = (keepD bs (k + 1)).length by rw [hkjH.out, hnx.out, hkeepH.out, List.length_take, hnnH.out]; have := hkjH.out; omega)
          have hst : Hid (k = (keepD bs (k + 1)).length ∧ (∀ q b, (keepD bs (k + 1))[q]? = some b → F0 q = b) ∧ (∀ q b, k ≤ q → bs[q]? = some b → F0 q = b)) := by
            refine Lib.hid ⟨hil.out, fun q b hq => ?_, fun q b _ hq => hF0H.out q b hq⟩
            rw [hkjH.out, hnx.out, hkeepH.out, List.getElem?_take] at hq
            split at hq
            · exact hF0H.out q b hq
            · cases hq
          have hbwO := hbw.out
          have hrwO := hrwH.out
          obtain ⟨wo, hwo⟩ : ∃ wo : World, wo = wr := ⟨_, rfl⟩
          subst hwo
          go_wp2
          refine wp_region_ord [(0, .q), (1, .q), (2, .q), (3, .q), (4, .q), (5, .q), (6, .q), (7, .q), (8, .q), (9, .q)] (by kernel_rfl) (by kernel_rfl) ?_
          simp only [pick, List.filterMap_cons, List.filterMap_nil, List.getElem?_toArray, List.getElem?_cons_zero, List.getElem?_cons_succ, Option.map_some]
          repeat (first
            | ((with_reducible refine wpD_p (fun K hK => ?_)); go_simp; refine hK _ ?_; clear hK K)
            | ((with_reducible refine wpD_q (fun K hK => ?_)); go_simp; (first | refine hK _ ?_ | (go_bits; refine hK _ ?_) | (go_bits; go_simp; refine hK _ ?_)); clear hK K)
            | ((with_reducible refine wpD_g (fun K hK => ?_)); go_simp; refine hK _ _ ?_; clear hK K)
            | ((with_reducible refine wpD_g (fun K hK => ?_)); go_simp; refine ⟨Grew.of_alloc _, hK _ _ ?_⟩; clear hK K))
          with_reducible refine wpD_nil ?_
          go_wp2
          clear c0 c1 d0 d1
          go_loopg [3, 5] (n - (k + 1)) (fun r x y wz => ∃ (i j m : Nat) (F : Nat → Pt) (f' : Nat → Value), j + r = n ∧ i < j ∧ k + m = j ∧ 1 ≤ m ∧ x = .int .i64 (i : Int) ∧ y = .int .i64 (m : Int) ∧ Hid (i = (keepD bs j).length ∧ (∀ q b, (keepD bs j)[q]? = some b → F q = b) ∧ (∀ q b, j - 1 ≤ q → bs[q]? = some b → F q = b)) ∧ wz.rowIs g 49 (cap * 2) f' ∧ Hid (∀ q, q < n → f' (q * 2) = .int .i64 (F q).x ∧ f' (q * 2 + 1) = .int .i64 (F q).y) ∧ Hid (Gb g w wz))
          case atStart => exact ⟨k, k + 1, 1, F0, _, by omega, by omega, by omega, by omega, rfl, by go_num, hst, hrwO, hf0, Lib.hid (Gb.of_below (by exact bel_))⟩
          case round =>
            clear hrwO hbwO hst
            obtain ⟨i, t, m, F, f', hj, hij, hm, hm1, rfl, rfl, hst', hrz, hf, hbz⟩ := hrel
            obtain ⟨mp, hmp⟩ : ∃ mp, m = mp + 1 := ⟨m - 1, by omega⟩
            have hgz : g < wr.heap.size := hrz.lt
            by_cases hlt2 : t < n
            · obtain ⟨e1, he1⟩ := hptH.out t hlt2
              obtain ⟨d1, hd1⟩ := hptH.out (k + mp) (by omega)
              obtain ⟨v0, v1⟩ := hf.out t hlt2
              obtain ⟨u0, u1⟩ := hf.out (k + mp) (by omega)
              rw [hst'.out.2.2 _ _ (by omega) he1] at v0 v1
              rw [hst'.out.2.2 _ _ (by omega) hd1] at u0 u1
              have c0 := hrz.cell (i := k * 2 + m * 2) (by omega)
              have c1 := hrz.cell (i := k * 2 + m * 2 + 1) (by omega)
              have d0 := hrz.cell (i := k * 2 + mp * 2) (by omega)
              have d2 := hrz.cell (i := k * 2 + mp * 2 + 1) (by omega)
              rw [show k * 2 + m * 2 = t * 2 by omega, v0, ← show k * 2 + m * 2 = t * 2 by omega] at c0
              rw [show k * 2 + m * 2 + 1 = t * 2 + 1 by omega, v1, ← show k * 2 + m * 2 + 1 = t * 2 + 1 by omega] at c1
              rw [show k * 2 + mp * 2 = (k + mp) * 2 by omega, u0, ← show k * 2 + mp * 2 = (k + mp) * 2 by omega] at d0
              rw [show k * 2 + mp * 2 + 1 = (k + mp) * 2 + 1 by omega, u1, ← show k * 2 + mp * 2 + 1 = (k + mp) * 2 + 1 by omega] at d2
              have hgm : (m : Int) - 1 = (mp : Int) := by omega
              have hwr : IntKind.i64.wrap (mp : Int) = (mp : Int) := wrap_in (by omega) (by omega)
              have hmn : m < n - k := by omega
              have hmn2 : mp < n - k := by omega
              have hein := Lib.hid he1
              have hdin := Lib.hid hd1
              have hmpH := Lib.hid hmp
              have w0 := hrz.cell (i := i * 2) (by omega)
              have w1 := hrz.cell (i := i * 2 + 1) (by omega)
              have k0 := hrz.frozen (i * 2)
              have k1 := hrz.frozen (i * 2 + 1)
              have hin : i < n := by omega
              have hrzH := Lib.hid hrz
              have hbzO := hbz.out
              have hts := Lib.hid (show bs[(k + mp) + 1]? = some e1 by rw [show (k + mp) + 1 = t by omega]; exact he1)
              have htt := Lib.hid (show (k + mp) + 1 = t by omega)
              clear v0 v1 u0 u1 he1 hd1 hmp hrz
              rcases pt_cases e1 d1 with rfl | ⟨hx, hy⟩ | hx
              · go_wp2
                refine wp_region_ord [(0, .q), (1, .q), (2, .q), (3, .q), (4, .q), (5, .q), (6, .q), (7, .q), (8, .q), (9, .q)] (by kernel_rfl) (by kernel_rfl) ?_
                simp only [pick, List.filterMap_cons, List.filterMap_nil, List.getElem?_toArray, List.getElem?_cons_zero, List.getElem?_cons_succ, Option.map_some]
                repeat (first
                  | ((with_reducible refine wpD_p (fun K hK => ?_)); go_simp; refine hK _ ?_; clear hK K)
                  | ((with_reducible refine wpD_q (fun K hK => ?_)); go_simp; (first | refine hK _ ?_ | (go_bits; refine hK _ ?_) | (go_bits; go_simp; refine hK _ ?_)); clear hK K)
                  | ((with_reducible refine wpD_g (fun K hK => ?_)); go_simp; refine hK _ _ ?_; clear hK K)
                  | ((with_reducible refine wpD_g (fun K hK => ?_)); go_simp; refine ⟨Grew.of_alloc _, hK _ _ ?_⟩; clear hK K))
                with_reducible refine wpD_nil ?_
                go_wp2
                go_roundg (n - (t + 1))
                case measure => omega
                case rel =>
                  have hnx := keepD_no hdin.out hts.out rfl
                  have e2 : k + mp + 2 = t + 1 := by have := htt.out; omega
                  rw [e2, htt.out] at hnx
                  exact ⟨i, t + 1, m + 1, F, f', by omega, by omega, by omega, by omega, rfl, by go_num, Lib.hid ⟨by rw [hnx]; exact hst'.out.1, fun q b hq => by rw [hnx] at hq; exact hst'.out.2.1 q b hq, fun q b hq hb => hst'.out.2.2 q b (by omega) hb⟩, hrzH.out, hf, Lib.hid (Gb.below hbzO (by exact bel_))⟩
              · go_wp2
                refine wp_region_ord [(0, .q), (1, .q), (2, .q), (3, .q), (4, .q), (5, .q), (6, .q), (7, .q), (8, .q), (9, .q)] (by kernel_rfl) (by kernel_rfl) ?_
                simp only [pick, List.filterMap_cons, List.filterMap_nil, List.getElem?_toArray, List.getElem?_cons_zero, List.getElem?_cons_succ, Option.map_some]
                repeat (first
                  | ((with_reducible refine wpD_p (fun K hK => ?_)); go_simp; refine hK _ ?_; clear hK K)
                  | ((with_reducible refine wpD_q (fun K hK => ?_)); go_simp; (first | refine hK _ ?_ | (go_bits; refine hK _ ?_) | (go_bits; go_simp; refine hK _ ?_)); clear hK K)
                  | ((with_reducible refine wpD_g (fun K hK => ?_)); go_simp; refine hK _ _ ?_; clear hK K)
                  | ((with_reducible refine wpD_g (fun K hK => ?_)); go_simp; refine ⟨Grew.of_alloc _, hK _ _ ?_⟩; clear hK K))
                with_reducible refine wpD_nil ?_
                go_wp2
                go_roundg (n - (t + 1))
                case measure => omega
                case rel =>
                  have hnx := keepD_yes hdin.out hts.out (fun h => by subst h; simp at hy)
                  have e2 : k + mp + 2 = t + 1 := by have := htt.out; omega
                  rw [e2, htt.out] at hnx
                  have hnxH := Lib.hid hnx
                  exact ⟨i + 1, t + 1, m + 1, fun q => if q = i then e1 else F q, _, by omega, by omega, by omega, by omega, by go_num, by go_num, Lib.hid ⟨by
                    rw [hnxH.out, List.length_append, ← hst'.out.1]; rfl, fun q b hq => by
                    rw [hnxH.out] at hq
                    have hil := hst'.out.1
                    rcases Nat.lt_or_ge q i with hqi | hqi
                    · rw [List.getElem?_append_left (by omega)] at hq
                      show (if q = i then e1 else F q) = b
                      rw [if_neg (by omega)]; exact hst'.out.2.1 q b hq
                    · rw [List.getElem?_append_right (by omega)] at hq
                      have : q - (keepD bs t).length = 0 := by
                        rcases Nat.eq_zero_or_pos (q - (keepD bs t).length) with h0 | h0
                        · exact h0
                        · rw [List.getElem?_eq_none (by simp; omega)] at hq; cases hq
                      rw [this] at hq
                      show (if q = i then e1 else F q) = b
                      rw [if_pos (by omega)]; simpa using hq, fun q b hq hb => by
                    show (if q = i then e1 else F q) = b
                    rw [if_neg (by omega)]; exact hst'.out.2.2 q b (by omega) hb⟩, (hrzH.out.set (i * 2) _).set (i * 2 + 1) _, Lib.hid (fun q hq => by
                    obtain ⟨u0, u1⟩ := hf.out q hq
                    by_cases hqi : q = i
                    · subst hqi
                      simp
                      exact hx.symm
                    · rw [if_neg (by omega), if_neg (by omega), if_neg (by omega), if_neg (by omega)]
                      show f' (q * 2) = Value.int .i64 (if q = i then e1 else F q).x ∧ f' (q * 2 + 1) = Value.int .i64 (if q = i then e1 else F q).y
                      rw [if_neg hqi]
                      exact ⟨u0, u1⟩), Lib.hid (Gb.below ((hbzO.set (i * 2) _).set (i * 2 + 1) _) (by exact bel_))⟩
              · go_wp2
                refine wp_region_ord [(0, .q), (1, .q), (2, .q), (3, .q), (4, .q), (5, .q), (6, .q), (7, .q), (8, .q), (9, .q)] (by kernel_rfl) (by kernel_rfl) ?_
                simp only [pick, List.filterMap_cons, List.filterMap_nil, List.getElem?_toArray, List.getElem?_cons_zero, List.getElem?_cons_succ, Option.map_some]
                repeat (first
                  | ((with_reducible refine wpD_p (fun K hK => ?_)); go_simp; refine hK _ ?_; clear hK K)
                  | ((with_reducible refine wpD_q (fun K hK => ?_)); go_simp; (first | refine hK _ ?_ | (go_bits; refine hK _ ?_) | (go_bits; go_simp; refine hK _ ?_)); clear hK K)
                  | ((with_reducible refine wpD_g (fun K hK => ?_)); go_simp; refine hK _ _ ?_; clear hK K)
                  | ((with_reducible refine wpD_g (fun K hK => ?_)); go_simp; refine ⟨Grew.of_alloc _, hK _ _ ?_⟩; clear hK K))
                with_reducible refine wpD_nil ?_
                go_wp2
                go_roundg (n - (t + 1))
                case measure => omega
                case rel =>
                  have hnx := keepD_yes hdin.out hts.out (fun h => by subst h; simp at hx)
                  have e2 : k + mp + 2 = t + 1 := by have := htt.out; omega
                  rw [e2, htt.out] at hnx
                  have hnxH := Lib.hid hnx
                  exact ⟨i + 1, t + 1, m + 1, fun q => if q = i then e1 else F q, _, by omega, by omega, by omega, by omega, by go_num, by go_num, Lib.hid ⟨by
                    rw [hnxH.out, List.length_append, ← hst'.out.1]; rfl, fun q b hq => by
                    rw [hnxH.out] at hq
                    have hil := hst'.out.1
                    rcases Nat.lt_or_ge q i with hqi | hqi
                    · rw [List.getElem?_append_left (by omega)] at hq
                      show (if q = i then e1 else F q) = b
                      rw [if_neg (by omega)]; exact hst'.out.2.1 q b hq
                    · rw [List.getElem?_append_right (by omega)] at hq
                      have : q - (keepD bs t).length = 0 := by
                        rcases Nat.eq_zero_or_pos (q - (keepD bs t).length) with h0 | h0
                        · exact h0
                        · rw [List.getElem?_eq_none (by simp; omega)] at hq; cases hq
                      rw [this] at hq
                      show (if q = i then e1 else F q) = b
                      rw [if_pos (by omega)]; simpa using hq, fun q b hq hb => by
                    show (if q = i then e1 else F q) = b
                    rw [if_neg (by omega)]; exact hst'.out.2.2 q b (by omega) hb⟩, (hrzH.out.set (i * 2) _).set (i * 2 + 1) _, Lib.hid (fun q hq => by
                    obtain ⟨u0, u1⟩ := hf.out q hq
                    by_cases hqi : q = i
                    · subst hqi
                      simp
                    · rw [if_neg (by omega), if_neg (by omega), if_neg (by omega), if_neg (by omega)]
                      show f' (q * 2) = Value.int .i64 (if q = i then e1 else F q).x ∧ f' (q * 2 + 1) = Value.int .i64 (if q = i then e1 else F q).y
                      rw [if_neg hqi]
                      exact ⟨u0, u1⟩), Lib.hid (Gb.below ((hbzO.set (i * 2) _).set (i * 2 + 1) _) (by exact bel_))⟩
            · obtain rfl : t = n := by omega
              have hcl := fun (ty : TypeId) => run_clear_rowsQ (P := Try.prog) wr 24 49 ty _ Try.underlying24 Try.zeroValue49 g (i * 2) (t - i) (cap - i) (by omega) (fun q hq => by rw [hrz.cell (i := i * 2 + q) (by simp [Value.cells] at hq; omega)]; rfl) (fun q hq => hrz.frozen _) (zero2Q _)
              have hci : ¬ cap = i := by omega
              have hmge : t - k ≤ m := by omega
              have hin : i ≤ t := by omega
              have hrzH := Lib.hid hrz
              clear hrz hmp hm
              go_wp2
              go_ret
              obtain ⟨zs, hzs⟩ : ∃ zs, (Builtin.zeroCells #[Value.int .i64 0, Value.int .i64 0] (t - i)).toList = zs := ⟨_, rfl⟩
              rw [hzs]
              have hrw3 := Go.rowIs_setCells zs (i * 2) wr f' hrzH.out
              have hil := hst'.out.1
              have hfin := hst'.out.2.1
              refine DelPt.of hil (owns_of_rowQ hrw3 rfl hbg.out (by omega) hmO.out (by rw [ptCells_len, hil]) (fun q u hq => ?_)) (hbz.out.sets (i * 2) zs)
              have hqlt := lt_of_get hq
              rw [ptCells_len] at hqlt
              obtain ⟨e, he⟩ : ∃ e, (keepD bs t)[q / 2]? = some e := ⟨_, List.getElem?_eq_getElem (by omega)⟩
              have hFq := hfin (q / 2) e he
              obtain ⟨u0, u1⟩ := hf.out (q / 2) (by omega)
              obtain ⟨y0, y1⟩ := ptCells_get _ (q / 2) e he
              rw [hFq] at u0 u1
              rw [hrw3.cell (i := q) (by omega), if_neg (by omega)]
              rcases (show q % 2 = 0 ∨ q % 2 = 1 by omega) with h2 | h2
              · have e1 : q / 2 * 2 = q := by omega
                rw [e1] at u0 y0
                rw [u0, ← y0, hq]
              · have e1 : q / 2 * 2 + 1 = q := by omega
                rw [e1] at u1 y1
                rw [u1, ← y1, hq]
        · have hnx := Lib.hid (keepD_yes hdH.out heH.out (fun h => by subst h; simp at hy))
          go_wp2
          refine wp_region_ord [(0, .q), (1, .q), (2, .q), (3, .q), (4, .q), (5, .q), (6, .q), (7, .q), (8, .q), (9, .q)] (by kernel_rfl) (by kernel_rfl) ?_
          simp only [pick, List.filterMap_cons, List.filterMap_nil, List.getElem?_toArray, List.getElem?_cons_zero, List.getElem?_cons_succ, Option.map_some]
          repeat (first
            | ((with_reducible refine wpD_p (fun K hK => ?_)); go_simp; refine hK _ ?_; clear hK K)
            | ((with_reducible refine wpD_q (fun K hK => ?_)); go_simp; (first | refine hK _ ?_ | (go_bits; refine hK _ ?_) | (go_bits; go_simp; refine hK _ ?_)); clear hK K)
            | ((with_reducible refine wpD_g (fun K hK => ?_)); go_simp; refine hK _ _ ?_; clear hK K)
            | ((with_reducible refine wpD_g (fun K hK => ?_)); go_simp; refine ⟨Grew.of_alloc _, hK _ _ ?_⟩; clear hK K))
          with_reducible refine wpD_nil ?_
          go_wp2
          go_roundg (n - (k + 1))
          case measure => omega
          case rel => exact ⟨k + 1, by omega, by omega, by go_num, Lib.hid (by rw [htk.out, hkjH.out, hnx.out, hkeepH.out]), Lib.hid (by have hbwO := hbw.out; exact bel_)⟩
        · have hnx := Lib.hid (keepD_yes hdH.out heH.out (fun h => by subst h; simp at hx))
          go_wp2
          refine wp_region_ord [(0, .q), (1, .q), (2, .q), (3, .q), (4, .q), (5, .q), (6, .q), (7, .q), (8, .q), (9, .q)] (by kernel_rfl) (by kernel_rfl) ?_
          simp only [pick, List.filterMap_cons, List.filterMap_nil, List.getElem?_toArray, List.getElem?_cons_zero, List.getElem?_cons_succ, Option.map_some]
          repeat (first
            | ((with_reducible refine wpD_p (fun K hK => ?_)); go_simp; refine hK _ ?_; clear hK K)
            | ((with_reducible refine wpD_q (fun K hK => ?_)); go_simp; (first | refine hK _ ?_ | (go_bits; refine hK _ ?_) | (go_bits; go_simp; refine hK _ ?_)); clear hK K)
            | ((with_reducible refine wpD_g (fun K hK => ?_)); go_simp; refine hK _ _ ?_; clear hK K)
            | ((with_reducible refine wpD_g (fun K hK => ?_)); go_simp; refine ⟨Grew.of_alloc _, hK _ _ ?_⟩; clear hK K))
          with_reducible refine wpD_nil ?_
          go_wp2
          go_roundg (n - (k + 1))
          case measure => omega
          case rel => exact ⟨k + 1, by omega, by omega, by go_num, Lib.hid (by rw [htk.out, hkjH.out, hnx.out, hkeepH.out]), Lib.hid (by have hbwO := hbw.out; exact bel_)⟩
      · obtain rfl : k = n := by omega
        go_wp2
        go_ret
        refine DelPt.of ?_ ?_ (Gb.of_below hbw.out)
        · rw [hkeep.out, List.length_take, hnnH.out]; omega
        · rw [hkeep.out, List.take_of_length_le (by rw [hnnH.out]; exact Nat.le_refl _)]; exact ownsRow_below rowH.out hbw.out
end Go.Proofs.Ytkppijcjmhkkkaa
/- Walks: a row of points in order and without equals. -/



namespace Go.Proofs.Ytkppijcjmhkkkaa
open Go.RowKit Go.Shelf
attribute [local go_sem] BelowBy.cell BelowBy.cell_drew stillUpon givesUpon

theorem ptCells_of_rd {w : World} {b o : Nat} {xs : List Pt} (h : ∀ k e, xs[k]? = some e → RPt w b (o + k * 2) e) : ∀ j u, (ptCells xs)[j]? = some u → w.cell? ((⟨b, o, none⟩ : Addr).add j) = some u := by
  intro j u hj
  have hlt := (List.getElem?_eq_some_iff.1 hj).1
  rw [ptCells_len] at hlt
  obtain ⟨k, hk⟩ : ∃ k, j / 2 = k := ⟨_, rfl⟩
  obtain ⟨e, he⟩ : ∃ e, xs[k]? = some e := ⟨_, List.getElem?_eq_getElem (by omega)⟩
  obtain ⟨g0, g1⟩ := ptCells_get xs _ e he
  obtain ⟨c0, c1⟩ := h _ e he
  rw [Addr.add_lit]
  have : j = k * 2 ∨ j = k * 2 + 1 := by omega
  rcases this with rfl | rfl
  · rw [← Option.some.inj (g0.symm.trans hj)]; exact c0
  · rw [← Option.some.inj (g1.symm.trans hj), ← Nat.add_assoc]; exact c1
def OwnPts (w : World) (bs : List Pt) (e : Ending) (w' : World) : Prop := ∃ v, e = .returned v ∧ w'.ownsRow w.heap.size 49 2 v bs.length (ptCells bs) ∧ Below w.heap.size w w'
set_option maxRecDepth 100000 in
set_option maxHeartbeats 1000000 in
theorem CloneNil_any (w : World) :
    Calls Try.prog 47 #[.slice none 0 0] w fun e w' => e = .returned (.slice none 0 0) ∧ Below w.heap.size w w' := by
  obtain ⟨i0, hi, hz0, hz1, hz2⟩ := info_parts infoPtQ
  have hq := fun W => Lib.run_eql_slice_nil (P := Try.prog) W 24 49 none 0 0 0 0 Try.underlying24
  go_enter Try.func47, Try.ntmps47
  go_wp2
  go_ret
  exact ⟨rfl, bl_refl _⟩
set_option maxRecDepth 100000 in
set_option maxHeartbeats 1000000 in
theorem ClonePt_any (ad : Addr) (n c : Nat) (bs : List Pt) (w : World) (h : RdSl 2 RPt w (some ad) n bs) (hn : n ≤ 1000000) :
    Calls Try.prog 47 #[.slice (some ad) n c] w (OwnPts w bs) := by
  obtain ⟨i0, hi, hz0, hz1, hz2⟩ := info_parts infoPtQ
  have hl := h.len
  have hq := fun W => Lib.run_eql_slice_nil (P := Try.prog) W 24 49 (some ad) n c 0 0 Try.underlying24
  have hcl : (∀ (ob : Obj) j u, (ptCells bs)[j]? = some u → (w.alloc ob).cell? (ad.add j) = some u) := fun ob j u hj => by
    have hlt := (List.getElem?_eq_some_iff.1 hj).1
    rw [ptCells_len] at hlt
    obtain ⟨b, o, e, hb, hc⟩ := h.ptr (by omega)
    injection e with e
    subst e
    refine Eq.trans (World.cell?_alloc_lt _ _ _ ?_) (ptCells_of_rd hc j u hj)
    rw [Addr.add_lit]; exact hb
  have hclH := Lib.hid hcl
  have hlH := Lib.hid hl
  have hlen := ptCells_len bs
  rw [hl] at hlen
  have hlenH := Lib.hid hlen
  clear h hl hcl hlen
  go_enter Try.func47, Try.ntmps47
  go_wp2_with (at_builtin; go_loud (refine wpList_append_own _ rfl _ _ 24 rfl w.heap.size 49 i0 (.agg #[.int .i64 0, .int .i64 0]) 2 16 Try.underlying24 hi hz0 hz1 hz2 rfl (by decide) _ 0 [] rfl (World.ownsRow_made _ _ _ (Nat.le_refl _) (by decide) rfl) ad n c (ptCells bs) rfl hlenH.out (fun j u hj => hclH.out _ j u hj) (ptCells_one bs) (by unfold maxLen; omega) (by omega) (by simp) ?_); intro v' w3 hown' hgrow _)
  go_ret
  refine ⟨_, rfl, ?_, ((Below.refl w.heap.size w).alloc (Nat.le_refl _) _).grown hgrow (by simp) (fun b' hb' => ?_)⟩
  · rw [hlH.out]
    simpa using hown'
  · have hb2 : some w.heap.size = some b' := hb'
    injection hb2 with hb3
    exact Nat.le_of_eq hb3
set_option maxRecDepth 100000 in
theorem insNil_any (c : Nat) (fv : Value) (w : World) :
    Calls Try.prog 73 #[.slice none 0 c, .int .i64 0, .int .i64 0, fv] w fun e w' => e = .returned (.tuple #[]) ∧ Below w.heap.size w w' := by
  go_enter Try.func73, Try.ntmps73
  go_wp2
  go_loopg [8] 1 (fun g x wr => g = 1 ∧ x = .int .i64 1 ∧ Below w.heap.size w wr)
  case atStart => exact ⟨rfl, by go_num, bl_refl _⟩
  case round =>
    obtain ⟨hg, rfl, hb⟩ := hrel
    go_wp2
    go_end0
    exact ⟨rfl, hb⟩
set_option maxRecDepth 100000 in
theorem pdqNil_any (c : Nat) (l : Int) (fv : Value) (w : World) :
    Calls Try.prog 66 #[.slice none 0 c, .int .i64 0, .int .i64 0, .int .i64 l, fv] w fun e w' => e = .returned (.tuple #[]) ∧ Below w.heap.size w w' := by
  go_enter Try.func66, Try.ntmps66
  go_wp2
  go_loopg [1, 2] 1 (fun g x y wr => g = 1 ∧ x = .int .i64 0 ∧ y = .int .i64 0 ∧ Below w.heap.size w wr)
  case atStart => exact ⟨rfl, rfl, rfl, bl_refl _⟩
  case round =>
    obtain ⟨hg, rfl, rfl, hb⟩ := hrel
    go_wp2_with (go_at_call 73; refine (insNil_any _ _ _).mono ?_; rintro e w1 ⟨rfl, hb1⟩; have hb1H := Lib.hid hb1; clear hb1)
    (try simp only [Exit.inBlock, Exit.then])
    refine bodyPost_ret (results_none rfl _ _ _) rfl ?_
    exact ⟨rfl, hb.trans (hb1H.out.mono hb.size)⟩
set_option maxRecDepth 100000 in
theorem bitsLen_zero (w : World) :
    Calls Try.prog 67 #[.int .u64 0] w fun e w' => (∃ l, e = .returned (.int .i64 l)) ∧ Below w.heap.size w w' := by
  go_enter Try.func67, Try.ntmps67
  go_wp2
  go_ret
  exact ⟨⟨_, rfl⟩, bl_refl _⟩
set_option maxRecDepth 100000 in
theorem SortNil_any (c : Nat) (fv : Value) (w : World) :
    Calls Try.prog 48 #[.slice none 0 c, fv] w fun e w' => e = .returned (.tuple #[]) ∧ Below w.heap.size w w' := by
  go_enter Try.func48, Try.ntmps48
  go_wp2_with (first
    | (go_at_call 67; refine (bitsLen_zero _).mono ?_; rintro e w1 ⟨⟨l, rfl⟩, hb1⟩; have hb1H := Lib.hid hb1; clear hb1)
    | (go_at_call 66; refine (pdqNil_any _ _ _ _).mono ?_; rintro e w2 ⟨rfl, hb2⟩; have hb2H := Lib.hid hb2; clear hb2))
  go_end0
  exact ⟨rfl, hb1H.out.trans (hb2H.out.mono hb1H.out.size)⟩
set_option maxRecDepth 100000 in
set_option maxHeartbeats 1000000 in
theorem shapeNil_any (w : World) :
    Calls Try.prog 31 #[.slice none 0 0] w (OwnPts w []) := by
  go_enter Try.func31, Try.ntmps31
  go_wp2_with (first
    | (go_at_call 47; refine (CloneNil_any _).mono ?_; rintro e w1 ⟨rfl, hb1⟩; have hb1H := Lib.hid hb1; clear hb1)
    | (go_at_call 48; refine (SortNil_any _ _ _).mono ?_; rintro e w2 ⟨rfl, hb2⟩; have hb2H := Lib.hid hb2; clear hb2)
    | (go_at_call 50; refine (CompactNil_any _ _).mono ?_; rintro e w3 ⟨rfl, hb3⟩; have hb3H := Lib.hid hb3; clear hb3))
  go_ret
  exact ⟨_, rfl, World.ownsRow_nil _ _ _ _, hb1H.out.trans ((hb2H.out.trans (hb3H.out.mono hb2H.out.size)).mono hb1H.out.size)⟩
theorem sortP_mem {L : List Pt} {p : Pt} : p ∈ sortP L ↔ p ∈ L := List.mem_mergeSort
theorem sortP_weak (L : List Pt) : (sortP L).Pairwise (fun a b => ¬ ltP b a) := by
  have h : (sortP L).Pairwise (fun a b => (!(ltOf cmpP) b a) = true) := by
    refine List.pairwise_mergeSort ?_ ?_ L
    · intro a b c h1 h2
      have := swo_cmpP.ntrans (x := c) (y := b) (z := a) (by simpa using h2) (by simpa using h1)
      simp [this]
    · intro a b
      cases h1 : ltOf cmpP a b
      · simp
      · have := (swo_cmpP.asymm h1)
        simp [this]
  refine h.imp ?_
  intro a b h
  rw [ltOf_cmpP] at h
  intro h2
  rw [ltP_iff] at h2
  rw [lessPt_said] at h
  simp at h
  omega
set_option maxRecDepth 100000 in
set_option maxHeartbeats 1000000 in
theorem sortedShape_any (base : Nat) (v : Value) (L : List Pt) (w : World) (hrow : w.ownsRow base 49 2 v L.length (ptCells L)) (hn : L.length ≤ 1000000) (hz : L.length = 0 → v = .slice none 0 0) :
    Calls Try.prog 31 #[v] w (OwnPts w (putAll [] L)) := by
  have hP := compact_put (L := L) (M := sortP L) (fun p => sortP_mem) (sortP_weak L)
  rw [← hP]
  rcases Nat.eq_zero_or_pos L.length with h0 | h0
  · have h1 : L = [] := List.eq_nil_of_length_eq_zero h0
    subst h1
    have hc : compactP (sortP []) = [] := by unfold sortP; rw [List.mergeSort_nil]; rfl
    rw [hc]
    rw [hz rfl]
    exact shapeNil_any w
  · obtain ⟨A, c, rfl, hrd⟩ := rdPt_of_row hrow
    obtain ⟨b, o, rfl, hb, hc⟩ := hrd.ptr h0
    obtain ⟨n, hnn⟩ : ∃ n, L.length = n := ⟨_, rfl⟩
    rw [hnn] at hrd hn h0 ⊢
    have hnH := Lib.hid hnn
    have hrdH := Lib.hid hrd
    have hPH := Lib.hid hP
    clear hrow hc hrd hP hnn hz
    go_enter Try.func31, Try.ntmps31
    go_wp2_with fail
    refine (ClonePt_any _ _ _ L _ hrdH.out hn).mono ?_
    rintro e w1 ⟨v1, rfl, hown, hb1⟩
    rcases hown.2 with ⟨_, h00⟩ | ⟨g, cap, cur, rfl, hbg, hh, _⟩
    · have := hnH.out; omega
    have hgw : g < w1.heap.size := (Array.getElem?_eq_some_iff.1 hh).1
    have hownH := Lib.hid hown
    have hb1H := Lib.hid hb1
    have hbgH := Lib.hid hbg
    have hs1H := Lib.hid hb1.size
    clear hown hb1 hbg hh
    rw [hnH.out] at hownH ⊢
    go_wp2_with fail
    have hsrt := SortFuncPt_any L w.heap.size g cap w1 (by rw [hnH.out]; exact hownH.out) (by rw [hnH.out]; omega)
    rw [hnH.out] at hsrt
    refine hsrt.mono ?_
    rintro e w2 ⟨rfl, hown2, hg2⟩
    have hown2H := Lib.hid hown2
    have hg2H := Lib.hid hg2
    clear hown2 hg2 hsrt
    go_wp2_with fail
    have hsl : (sortP L).length = n := by rw [sortP_len]; exact hnH.out
    have hcp := CompactPt_any w.heap.size g cap (sortP L) w2 (by rw [hsl]; exact hown2H.out) (by rw [hsl]; exact h0) (by rw [hsl]; exact hn)
    rw [hsl] at hcp
    refine hcp.mono ?_
    rintro e w3 ⟨c3, rfl, hown3, hg3⟩
    have hown3H := Lib.hid hown3
    have hg3H := Lib.hid hg3
    clear hown3 hg3 hcp hsl
    go_wp2
    go_ret
    exact ⟨_, rfl, hown3H.out, hb1H.out.trans ((Gb.trans hg2H.out hg3H.out).toBelow hs1H.out hbgH.out |>.mono (Nat.le_refl _))⟩
end Go.Proofs.Ytkppijcjmhkkkaa
