import Derived.Test.YtkppijcjmhkkkaaGBK
import Derived.Test.YtkppijcjmhkkkaaGAK
import Derived.Test.YtkppijcjmhkkkaaGBI
set_option linter.unusedSimpArgs false
set_option linter.unusedVariables false
/- Walks: the drawn shape of the laws; two shapes are the same, or are compared; a list sorted; a shape scaled, the reference. -/



namespace Go.Proofs.Ytkppijcjmhkkkaa
open Go.RowKit
attribute [local go_sem] BelowBy.cell BelowBy.cell_drew stillUpon givesUpon

/-- the drawn shape, below the caller -/
def ShapeD (w : World) (e : Ending) (w' : World) : Prop := ∃ A N c ps, e = .returned (.slice A N c) ∧ RdSl 2 RPt w' A N ps ∧ Sm ps 15 ∧ 1 ≤ N ∧ N ≤ 25 ∧ Below w.heap.size w w'
set_option maxRecDepth 100000 in
set_option maxHeartbeats 1000000 in
theorem LawShape_any {C : Option Addr} {n c : Nat} {bs : List Nat} {w : World} (h : RdSl 1 RBy w C n bs) (hn : n ≤ 1000000) :
    Calls Try.prog 6 #[.slice C n c] w (ShapeD w) := by
  have hH := Lib.hid h
  clear h
  go_enter Try.func6, Try.ntmps6
  go_wp2_with fail
  refine (l00FromE_any hH.out hn).mono ?_
  rintro e w1 ⟨p, rfl, hp, hS1, hb1⟩
  go_wp2_with fail
  refine (l04Draw_any hS1 (by omega) hS1.lt).mono ?_
  rintro e w2 ⟨A, N, c2, ps, rfl, hR, hSm, h1, h2, hk⟩
  go_wp2
  go_ret
  exact ⟨A, N, c2, ps, rfl, hR, hSm, h1, h2, hb1.trans (hk.below.mono hp)⟩
set_option maxRecDepth 100000 in
set_option maxHeartbeats 1000000 in
theorem LawPickS_any {C : Option Addr} {n c : Nat} {bs : List Nat} {w : World} (M : Nat) (h : RdSl 1 RBy w C n bs) (hn : n ≤ 1000000) (h1 : 1 ≤ M) (h2 : M ≤ 200) :
    Calls Try.prog 7 #[.slice C n c, .int .i64 (M : Int)] w fun e w' => ∃ k : Nat, e = .returned (.int .i64 (k : Int)) ∧ k < M ∧ Below w.heap.size w w' := by
  have hH := Lib.hid h
  clear h
  go_enter Try.func7, Try.ntmps7
  go_wp2_with fail
  refine (l00FromE_any hH.out hn).mono ?_
  rintro e w1 ⟨p, rfl, hp, hS1, hb1⟩
  go_wp2_with fail
  refine (pickE_any M hS1 (by omega) rfl h1 h2).mono ?_
  rintro e w2 ⟨v, rfl, hv, _, hk⟩
  go_wp2
  go_ret
  exact ⟨v, rfl, hv, hb1.trans (hk.below.mono hp)⟩
set_option maxRecDepth 100000 in
set_option maxHeartbeats 1000000 in
theorem l04Same_any {A B : Option Addr} {n n2 c c2 : Nat} {ps : List Pt} {w : World} (h : RdSl 2 RPt w A n ps) (h2 : RdSl 2 RPt w B n2 ps) (hn : n ≤ 1000000) :
    Calls Try.prog 29 #[.slice A n c, .slice B n2 c2] w fun e w' => e = .returned (.bool true) ∧ Below w.heap.size w w' := by
  obtain rfl : n = n2 := by rw [← h.len, h2.len]
  have hH := Lib.hid h
  have hH2 := Lib.hid h2
  clear h h2
  go_enter Try.func29, Try.ntmps29
  go_wp2
  go_loopg [5] n (fun g i wr => ∃ j : Nat, j + g = n ∧ i = .int .i64 (j : Int) ∧ Hid (Below w.heap.size w wr))
  case atStart => exact ⟨0, by omega, rfl, Lib.hid (bl_refl _)⟩
  case round =>
    obtain ⟨j, hj, rfl, hbw⟩ := hrel
    by_cases hjn : j < n
    · have h := hH.out.below RPt.stable hbw.out
      have h2 := hH2.out.below RPt.stable hbw.out
      obtain ⟨e, he⟩ := h.get hjn
      obtain ⟨bf, of_, hFe, hbf, hcf⟩ := h.ptr (by omega)
      obtain ⟨bg, og, hGe, hbg, hcg⟩ := h2.ptr (by omega)
      obtain ⟨d0, d1⟩ := hcf j e he
      obtain ⟨f0, f1⟩ := hcg j e he
      subst hFe
      subst hGe
      have hjI : (j : Int) < (n : Int) := by omega
      have hj0 : (0 : Int) ≤ (j : Int) := by omega
      clear hcf hcg h h2
      go_wp2
      refine wp_region_ord [(0, .q), (1, .q), (2, .q), (3, .q), (4, .q), (5, .q), (6, .q), (7, .q), (8, .q)] (by kernel_rfl) (by kernel_rfl) ?_
      simp only [pick, List.filterMap_cons, List.filterMap_nil, List.getElem?_toArray, List.getElem?_cons_zero, List.getElem?_cons_succ, Option.map_some]
      repeat (first
        | ((with_reducible refine wpD_p (fun K hK => ?_)); go_simp; refine hK _ ?_; clear hK K)
        | ((with_reducible refine wpD_q (fun K hK => ?_)); go_simp; (first | refine hK _ ?_ | (go_bits; refine hK _ ?_) | (go_bits; go_simp; refine hK _ ?_)); clear hK K)
        | ((with_reducible refine wpD_g (fun K hK => ?_)); go_simp; refine hK _ _ ?_; clear hK K)
        | ((with_reducible refine wpD_g (fun K hK => ?_)); go_simp; refine ⟨Grew.of_alloc _, hK _ _ ?_⟩; clear hK K))
      with_reducible refine wpD_nil ?_
      go_wp2
      go_roundg (n - (j + 1))
      case measure => omega
      case rel => exact ⟨j + 1, by omega, by go_num, Lib.hid (bl_dr hbw.out)⟩
    · obtain rfl : j = n := by omega
      have hjE : ¬ (j : Int) < (j : Int) := by omega
      go_wp2
      go_ret
      exact ⟨rfl, hbw.out⟩
theorem sSameShape_any {A B : Option Addr} {n n2 c c2 : Nat} {ps : List Pt} {w : World} (h : RdSl 2 RPt w A n ps) (h2 : RdSl 2 RPt w B n2 ps) (hn : n ≤ 1000000) :
    Calls Try.prog 10 #[.slice A n c, .slice B n2 c2] w fun e w' => e = .returned (.bool true) ∧ Below w.heap.size w w' := by
  have hH := Lib.hid h
  have hH2 := Lib.hid h2
  clear h h2
  go_enter Try.func10, Try.ntmps10
  go_wp2_with fail
  refine (l04Same_any hH.out hH2.out hn).mono ?_
  rintro e w1 ⟨rfl, hb⟩
  have hbH := Lib.hid hb
  clear hb
  go_wp2
  go_ret
  exact ⟨rfl, hbH.out⟩
theorem putAll_all (L : List Pt) : ∀ ps : List Pt, putAll (putAll [] L) ps = putAll [] (L ++ ps) := fun ps => by
  have h : ∀ (a b : List Pt) (M : List Pt), putAll (putAll M a) b = putAll M (a ++ b) := by
    intro a
    induction a with
    | nil => intro b M; rfl
    | cons p a ih => intro b M; exact ih b (putP M p.x p.y)
  exact h L ps []
set_option maxRecDepth 100000 in
set_option maxHeartbeats 2000000 in
theorem l04Sorted_any {A : Option Addr} {n c : Nat} {ps : List Pt} {w : World} (h : RdSl 2 RPt w A n ps) (hn : n ≤ 1000000) :
    Calls Try.prog 28 #[.slice A n c] w (OwnPts w (putAll [] ps)) := by
  have hl := Lib.hid h.len
  have hH := Lib.hid h
  clear h
  go_enter Try.func28, Try.ntmps28
  go_wp2_with fail
  have hal : Below w.heap.size w (w.alloc (Obj.cells #[] 49)) := bl_al (bl_refl _) _
  have hO := Lib.hid (RowPt.mk (L := []) (own_nil0 w) rfl)
  obtain ⟨w1, hw1⟩ : ∃ z, z = w.alloc (Obj.cells #[] 49) := ⟨_, rfl⟩
  rw [← hw1] at hO hal ⊢
  have hbw0 := Lib.hid hal
  clear hw1 hal
  go_loopg [3, 4] n (fun g v i wr => ∃ (m N : Nat) (L : List Pt), m + g = n ∧ N ≤ m ∧ i = .int .i64 (m : Int) ∧ Hid (L = putAll [] (ps.take m)) ∧ Hid (RowPt wr w.heap.size v N L) ∧ Hid (Below w.heap.size w wr))
  case atStart => exact ⟨0, 0, [], by omega, by omega, rfl, Lib.hid rfl, hO, hbw0⟩
  case round =>
    clear hO hbw0
    obtain ⟨m, N, L, hm, hN, rfl, hL, hO, hbw⟩ := hrel
    have hszl := hbw.out.size
    by_cases hmn : m < n
    · have hmI : (m : Int) < (n : Int) := by omega
      have hAw := hH.out.below RPt.stable hbw.out
      obtain ⟨bb, ob, rfl, hbb, hbc⟩ := hAw.ptr (by omega)
      obtain ⟨e, he⟩ := hAw.get hmn
      obtain ⟨e0, e1⟩ := hbc m e he
      have heH := Lib.hid he
      have hlN := hO.out.len
      have hown := hO.out.own
      rw [← hlN] at hown
      have hownH := Lib.hid hown
      obtain ⟨A1, c1, rfl⟩ := ownsRow_form hO.out.own
      clear hbc he hAw hown
      go_wp2_with fail
      refine (l08PutPoint_any hownH.out hszl (by omega)).mono ?_
      rintro _ w9 ⟨v7, rfl, hown7, hb7⟩
      have hLn := Lib.hid (show putP L e.x e.y = putAll [] (ps.take (m + 1)) by rw [hL.out, List.take_add_one, heH.out]; exact (putAll_snoc _ _ _).symm)
      have hNn : (putP L e.x e.y).length ≤ m + 1 := by
        rw [hLn.out]
        have := putAll_len (ps.take (m + 1)) []
        rw [List.length_take] at this
        simp at this
        omega
      obtain ⟨L7, hL7⟩ : ∃ L7, putP L e.x e.y = L7 := ⟨_, rfl⟩
      rw [hL7] at hown7 hLn hNn
      obtain ⟨N7, hN7⟩ : ∃ N7, L7.length = N7 := ⟨_, rfl⟩
      rw [hN7] at hown7 hNn
      have hO7 := Lib.hid (RowPt.mk hown7 hN7)
      have hbw7 := Lib.hid (hbw.out.trans hb7)
      clear hown7 hb7 hO hL hL7 hszl hN7 hownH hlN hbw
      go_wp2
      go_roundg (n - (m + 1))
      case measure => omega
      case rel => exact ⟨m + 1, N7, L7, by omega, by omega, by go_num, hLn, hO7, hbw7⟩
    · obtain rfl : m = n := by omega
      have hmI : ¬ (m : Int) < (m : Int) := by omega
      have hLe := Lib.hid (show L = putAll [] ps by rw [hL.out, List.take_of_length_le (by rw [hl.out]; exact Nat.le_refl _)])
      obtain ⟨A1, c1, rfl⟩ := ownsRow_form hO.out.own
      go_wp2
      go_ret
      exact ⟨_, rfl, by rw [← hLe.out, hO.out.len]; exact hO.out.own, hbw.out⟩
/-- the reference's block of a point: the numbers 0 to m - 1 -/
def cellQ (k : Nat) (p : Pt) (m : Nat) : List Pt := (List.range m).map fun i => ⟨(k : Int) * p.x + ((i % k : Nat) : Int), (k : Int) * p.y + ((i / k : Nat) : Int)⟩
def scalQ (k : Nat) (ps : List Pt) (j : Nat) : List Pt := (List.range j).flatMap fun v => cellQ k (ptAt ps v) (k * k)
theorem cellQ_succ (k : Nat) (p : Pt) (m : Nat) : cellQ k p (m + 1) = cellQ k p m ++ [⟨(k : Int) * p.x + ((m % k : Nat) : Int), (k : Int) * p.y + ((m / k : Nat) : Int)⟩] := by simp [cellQ, List.range_succ]
theorem scalQ_succ {k : Nat} {ps : List Pt} {j : Nat} {p : Pt} (h : ps[j]? = some p) : scalQ k ps (j + 1) = scalQ k ps j ++ cellQ k p (k * k) := by
  unfold scalQ; rw [flatMap_succ, ptAt_of h]
theorem cellQ_mem {k : Nat} (hk : 1 ≤ k ∧ k ≤ 3) {p q : Pt} : q ∈ cellQ k p (k * k) ↔ q ∈ blkS k p k := by
  unfold cellQ blkS colP
  rw [List.mem_map, List.mem_flatMap]
  constructor
  · rintro ⟨i, hi, rfl⟩
    have h := idx_lt hk (List.mem_range.1 hi)
    exact ⟨i % k, List.mem_range.2 h.1, List.mem_map.2 ⟨i / k, List.mem_range.2 h.2, rfl⟩⟩
  · rintro ⟨i, hi, hq⟩
    obtain ⟨j, hj, rfl⟩ := List.mem_map.1 hq
    replace hi := List.mem_range.1 hi
    replace hj := List.mem_range.1 hj
    refine ⟨j * k + i, List.mem_range.2 ?_, ?_⟩
    · have : j * k ≤ (k - 1) * k := Nat.mul_le_mul (by omega) (Nat.le_refl _)
      have h2 : (k - 1) * k + k = k * k := by rw [← Nat.succ_mul]; congr 1; omega
      omega
    · have h1 : (j * k + i) % k = i := by rw [Nat.add_comm, Nat.add_mul_mod_self_right]; exact Nat.mod_eq_of_lt hi
      have h2 : (j * k + i) / k = j := by rw [Nat.add_comm, Nat.add_mul_div_right _ _ (by omega), Nat.div_eq_of_lt hi, Nat.zero_add]
      rw [h1, h2]
theorem scalQ_eq {k : Nat} (hk : 1 ≤ k ∧ k ≤ 3) (ps : List Pt) : putAll [] (scalQ k ps ps.length) = scS k ps := by
  refine SortS.ext (putAll_sorted _ _ List.Pairwise.nil) (scS_sorted k ps) fun q => ?_
  unfold scS
  rw [putAll_mem, putAll_mem]
  unfold scalQ scalP scalN
  rw [List.mem_flatMap, List.mem_flatMap]
  simp only [cellQ_mem hk]
theorem scalQ_len (k : Nat) (ps : List Pt) (j : Nat) : (scalQ k ps j).length = j * (k * k) := flatMap_len _ _ (fun v => by simp [cellQ]) j
set_option maxRecDepth 100000 in
set_option maxHeartbeats 4000000 in
theorem sScaleShape_any {A : Option Addr} {n c k N : Nat} {ps L : List Pt} {w : World} (h : RdSl 2 RPt w A n ps) (h3 : S4 ps k) (h1 : 1 ≤ n) (hL : scS k ps = L) (hN : L.length = N) :
    Calls Try.prog 9 #[.slice A n c, .int .i64 (k : Int)] w fun e w' => ∃ B c', e = .returned (.tuple #[.slice B N c', .int .i64 0]) ∧ RdSl 2 RPt w' B N L ∧ Below w.heap.size w w' := by
  obtain ⟨i0, hi, hz0, hz1, hz2⟩ := info_parts infoPtQ
  have hl := h.len
  have hn10 : n ≤ 25 := by have := h3.n; omega
  have hk := h3.k
  have hsh := Lib.hid (h3.s.shape (by omega) (by omega) (by omega) : shapeB ps = true)
  have hNn := h3.len
  rw [hL, hN, hl] at hNn
  have hsL := Lib.hid (show shapeB L = true by rw [← hL]; exact h3.shape (by omega))
  obtain ⟨q, hq⟩ : ∃ q, k * k = q := ⟨_, rfl⟩
  have hq9 : 1 ≤ q ∧ q ≤ 9 := by rw [← hq]; exact ⟨Nat.mul_pos hk.1 hk.1, h3.kk⟩
  have hN9 : N ≤ 225 := by
    have h9 := h3.kk
    have : n * (k * k) ≤ 25 * 9 := Nat.mul_le_mul (by omega) h9
    omega
  have hnk : n * k ≤ 100 := Nat.le_trans (Nat.mul_le_mul (show n ≤ 25 by omega) (show k ≤ 3 by omega)) (by decide)
  obtain ⟨m, hm⟩ : ∃ m, n * k = m := ⟨_, rfl⟩
  have hmk : m * k = N := by rw [← hm, hNn, Nat.mul_assoc]
  have e1 : (n : Int) * (k : Int) = (m : Int) := by rw [← hm, Int.natCast_mul]
  have e2 : (m : Int) * (k : Int) = (N : Int) := by rw [← hmk, Int.natCast_mul]
  have w1 : IntKind.i64.wrap ((n : Int) * (k : Int)) = (m : Int) := by rw [e1]; exact wrapFs (by omega) (by omega)
  have w2 : IntKind.i64.wrap ((m : Int) * (k : Int)) = (N : Int) := by rw [e2]; exact wrapFs (by omega) (by omega)
  have wq : IntKind.i64.wrap ((k : Int) * (k : Int)) = (q : Int) := by rw [← Int.natCast_mul, hq]; exact wrapFs (by omega) (by omega)
  have hNI : ¬ (500 : Int) < (N : Int) := by omega
  have hB : Hid (inB (k : Int) 1 60 = true) := Lib.hid (inB_true.2 (by omega))
  have hrH := Lib.hid (fun (v : Nat) (e : Pt) (he : ps[v]? = some e) => h3.s.rng e (List.mem_of_getElem? he))
  have hH := Lib.hid h
  have h3H := Lib.hid h3
  have hLH := Lib.hid hL
  have hNH := Lib.hid hN
  have hqH := Lib.hid hq
  have hlH := Lib.hid hl
  have hNnH := Lib.hid hNn
  clear h hl hL hN hNn hm hmk e1 e2 h3 hq
  go_enter Try.func9, Try.ntmps9
  go_wp2_with fail
  refine (l04Ok_any A n c ps _ hH.out (by omega)).mono ?_
  rw [hsh.out]
  rintro _ w3 ⟨rfl, hb3⟩
  have hbw3 := Lib.hid hb3
  clear hb3
  go_wp2_with fail
  refine (l00In_at hB.out).mono ?_
  rintro _ _ ⟨rfl, rfl⟩
  go_wp2_with fail
  have hal : Below w3.heap.size w3 (w3.alloc (Obj.cells #[] 49)) := bl_al (bl_refl _) _
  have hO := Lib.hid (RowPt.mk (L := []) (own_nil0 w3) rfl)
  have hbw0 := Lib.hid (hbw3.out.trans (hal.mono hbw3.out.size))
  have hs3 := hbw3.out.size
  obtain ⟨w4, hw4⟩ : ∃ z, z = w3.alloc (Obj.cells #[] 49) := ⟨_, rfl⟩
  rw [← hw4] at hO hbw0 ⊢
  have hs4 : w3.heap.size ≤ w4.heap.size := by rw [hw4]; simp
  clear hw4 hal hbw3
  go_loopg [6, 7] n (fun g v i wr => ∃ (m N : Nat), m + g = n ∧ w3.heap.size ≤ wr.heap.size ∧ N ≤ 100 * m ∧ i = .int .i64 (m : Int) ∧ Hid (RowPt wr w3.heap.size v N (scalQ k ps m)) ∧ Hid (Below w.heap.size w wr))
  case atStart => exact ⟨0, 0, by omega, hs4, by omega, rfl, hO, hbw0⟩
  case round =>
    clear hO hbw0
    obtain ⟨v, M, hv, hs5, hM, rfl, hO, hbw⟩ := hrel
    obtain ⟨A1, c1, rfl⟩ := ownsRow_form hO.out.own
    by_cases hvn : v < n
    · have hvI : (v : Int) < (n : Int) := by omega
      go_wp2_with fail
      go_loopg [6, 8] q (fun g u i wr => ∃ (j R : Nat) (A1 : Option Addr) (c1 : Nat), j + g = q ∧ w3.heap.size ≤ wr.heap.size ∧ R ≤ M + j ∧ i = .int .i64 (j : Int) ∧ u = .slice A1 R c1 ∧ Hid (∀ e, ps[v]? = some e → RowPt wr w3.heap.size (.slice A1 R c1) R (scalQ k ps v ++ cellQ k e j)) ∧ Hid (Below w.heap.size w wr))
      case atStart => exact ⟨0, M, A1, c1, by omega, hs5, by omega, rfl, rfl, Lib.hid (fun e he => by rw [show cellQ k e 0 = [] from rfl, List.append_nil]; exact hO.out), hbw⟩
      case round =>
        clear hO hbw
        obtain ⟨j, R, A1, c1, hj, hs5, hR, rfl, rfl, hO, hbw⟩ := hrel
        by_cases hjq : j < q
        · have hjI : (j : Int) < (q : Int) := by omega
          have hAw := hH.out.below RPt.stable hbw.out
          obtain ⟨bb, ob, rfl, hbb, hbc⟩ := hAw.ptr (by omega)
          obtain ⟨e, he⟩ := hAw.get hvn
          obtain ⟨e0, e1⟩ := hbc v e he
          have her := hrH.out v e he
          replace hO := Lib.hid (hO.out e he)
          have heH := Lib.hid he
          obtain ⟨cx, hcx⟩ : ∃ a, j % k = a := ⟨_, rfl⟩
          obtain ⟨cy, hcy⟩ : ∃ a, j / k = a := ⟨_, rfl⟩
          have hm : Int.tmod (j : Int) (k : Int) = (cx : Int) := by rw [← hcx]; rfl
          have hd : Int.tdiv (j : Int) (k : Int) = (cy : Int) := by rw [← hcy]; rfl
          have hk0 : ¬ k = 0 := by omega
          have hix := idx_lt hk (show j < k * k by rw [hqH.out]; exact hjq)
          rw [hcx, hcy] at hix
          have hb : (-45 ≤ e.x * (k : Int) ∧ e.x * (k : Int) ≤ 45) ∧ (-45 ≤ e.y * (k : Int) ∧ e.y * (k : Int) ≤ 45) := by rcases k123 hk with rfl | rfl | rfl <;> omega
          obtain ⟨X0, hX0⟩ : ∃ X : Int, e.x * (k : Int) = X := ⟨_, rfl⟩
          obtain ⟨Y0, hY0⟩ : ∃ Y : Int, e.y * (k : Int) = Y := ⟨_, rfl⟩
          have hX1 := Lib.hid (show (k : Int) * e.x = X0 by rw [Int.mul_comm]; exact hX0)
          have hY1 := Lib.hid (show (k : Int) * e.y = Y0 by rw [Int.mul_comm]; exact hY0)
          rw [hX0, hY0] at hb
          have wx : IntKind.i64.wrap (e.x * (k : Int)) = X0 := by rw [hX0]; exact wrapFs (by omega) (by omega)
          have wy : IntKind.i64.wrap (e.y * (k : Int)) = Y0 := by rw [hY0]; exact wrapFs (by omega) (by omega)
          have wx2 : IntKind.i64.wrap (X0 + (cx : Int)) = X0 + (cx : Int) := wrapFs (by omega) (by omega)
          have wy2 : IntKind.i64.wrap (Y0 + (cy : Int)) = Y0 + (cy : Int) := wrapFs (by omega) (by omega)
          have wcy : IntKind.i64.wrap (cy : Int) = (cy : Int) := wrapFs (by omega) (by omega)
          have hcxH := Lib.hid hcx
          have hcyH := Lib.hid hcy
          clear hbc he hAw hX0 hY0 hcx hcy
          go_wp2_with fail
          refine wp_region_ord [(0, .q), (1, .q), (2, .q), (3, .q), (4, .q), (5, .q), (6, .q), (7, .q), (8, .q), (9, .q), (10, .q), (11, .q), (12, .q), (13, .q), (14, .q), (15, .q), (16, .q), (17, .q), (18, .q), (19, .q), (20, .q), (21, .q), (22, .q), (23, .q), (24, .g), (25, .b), (26, .q)] (by kernel_rfl) (by kernel_rfl) ?_
          simp only [pick, List.filterMap_cons, List.filterMap_nil, List.getElem?_toArray, List.getElem?_cons_zero, List.getElem?_cons_succ, Option.map_some]
          repeat (first | ((with_reducible refine wpD_p (fun K hK => ?_)); go_simp; refine hK _ ?_; clear hK K) | ((with_reducible refine wpD_q (fun K hK => ?_)); go_simp; (first | refine hK _ ?_ | (go_bits; refine hK _ ?_) | (go_bits; go_simp; refine hK _ ?_)); clear hK K))
          with_reducible refine wpD_g (fun K hK => ?_)
          go_simp
          refine ⟨Grew.of_alloc _, hK _ _ ?_⟩
          clear hK K
          have hal : Below wr.heap.size wr (wr.drew.alloc (Obj.cells #[.int .i64 (X0 + (cx : Int)), .int .i64 (Y0 + (cy : Int))] 49)) := bl_al (bl_dr (bl_refl _)) _
          have hszl := hbw.out.size
          have hO4 := hO.out.below hal
          refine wpD_append_atN rfl _ _ 24 rfl w3.heap.size 49 i0 (.agg #[.int .i64 0, .int .i64 0]) 2 16 Try.underlying24 hi hz0 hz1 hz2 rfl (by decide) (.slice A1 R c1) R (ptCells (scalQ k ps v ++ cellQ k e j)) (by go_simp) hO4.own ⟨wr.heap.size, 0, none⟩ 1 1 [.int .i64 (X0 + (cx : Int)), .int .i64 (Y0 + (cy : Int))] (by go_simp) rfl (cell_two_newN _ _ _ _) (fun x hx => by simp at hx; rcases hx with rfl | rfl <;> rfl) (by unfold maxLen; omega) (by omega) (by simp; omega) ?_
          intro v9 w9 hown9 hgrow9 hat9
          obtain ⟨A9, c9, rfl⟩ := ownsRow_form hown9
          have hbX : Below w.heap.size wr w9 := (hal.mono hszl).grown hgrow9 (by simp; omega) (fun g e => Nat.le_trans hs3 (hO4.own.lt g e).1)
          have hbw9 := Lib.hid (hbw.out.trans hbX)
          have hO9 := Lib.hid (RowPt.snoc hO4.len hown9)
          have hs9 : w3.heap.size ≤ w9.heap.size := Nat.le_trans hs5 (Nat.le_trans hal.size hgrow9.size)
          clear hown9 hgrow9 hat9 hal hO4 hbX hszl
          repeat (first | ((with_reducible refine wpD_p (fun K hK => ?_)); go_simp; refine hK _ ?_; clear hK K) | ((with_reducible refine wpD_q (fun K hK => ?_)); go_simp; (first | refine hK _ ?_ | (go_bits; refine hK _ ?_) | (go_bits; go_simp; refine hK _ ?_)); clear hK K))
          with_reducible refine wpD_nil ?_
          go_wp2
          go_roundg (q - (j + 1))
          case measure => omega
          case rel => exact ⟨j + 1, R + 1, A9, c9, by omega, hs9, by omega, by go_num, rfl, Lib.hid (fun e5 he5 => by
            rw [heH.out] at he5
            injection he5 with he5
            subst he5
            rw [cellQ_succ, ← List.append_assoc, hX1.out, hY1.out, hcxH.out, hcyH.out]
            exact hO9.out), hbw9⟩
        · obtain rfl : j = q := by omega
          have hjI : ¬ (j : Int) < (j : Int) := by omega
          go_wp2
          go_roundg (n - (v + 1))
          case measure => omega
          case rel => exact ⟨v + 1, R, by omega, hs5, by omega, by go_num, Lib.hid (by
            obtain ⟨e, he⟩ := hH.out.get hvn
            rw [scalQ_succ he, hqH.out]
            exact hO.out e he), hbw⟩
    · obtain rfl : v = n := by omega
      have hvI : ¬ (v : Int) < (v : Int) := by omega
      have hMN : M ≤ 1000000 := by omega
      have hR0 := Lib.hid (rdPt_own hO.out.own hO.out.len)
      have hEq := Lib.hid (show putAll [] (scalQ k ps v) = L by rw [← hLH.out, ← scalQ_eq hk ps, hlH.out])
      have hszl := hbw.out.size
      clear hO
      go_wp2_with fail
      refine (l04Sorted_any hR0.out hMN).mono ?_
      rw [hEq.out]
      rintro _ w5 ⟨v5, rfl, hO5, hb5⟩
      obtain ⟨B, cb, rfl, hR5⟩ := own_rd hO5 hNH.out
      have hR := Lib.hid hR5
      have hbw5 := Lib.hid (hbw.out.trans (hb5.mono hszl))
      clear hO5 hR5 hb5
      go_wp2_with fail
      refine (l04Ok_any B N cb L _ hR.out (by omega)).mono ?_
      rw [hsL.out]
      rintro _ w6 ⟨rfl, hb6⟩
      have hR6 := Lib.hid (hR.out.below RPt.stable hb6)
      have hbw6 := Lib.hid (hbw5.out.trans (hb6.mono hbw5.out.size))
      clear hb6
      go_wp2
      refine bodyPost_ret (v := .tuple #[.slice B N cb, .int .i64 0]) (by simp only [results, Try.results9]; go_simp) rfl ?_
      exact ⟨B, cb, rfl, hR6.out, hbw6.out⟩
end Go.Proofs.Ytkppijcjmhkkkaa
/- Plain: a shape turned, mirrored or moved has as many holes and the same perimeter; a perimeter is even. -/


namespace Go.Proofs.Ytkppijcjmhkkkaa
open Go.RowKit
set_option linter.unusedSectionVars false
def mapS (f : Pt → Pt) (ps : List Pt) : List Pt := putAll [] (ps.map f)
/-- a map of points that keeps who stands beside whom -/
structure Turn (f g : Pt → Pt) (σ τ : Nat → Nat) : Prop where
  gf : ∀ p, g (f p) = p
  fg : ∀ q, f (g q) = q
  sl : ∀ d, d < 4 → σ d < 4
  tl : ∀ d, d < 4 → τ d < 4
  sf : ∀ p d, d < 4 → f (nbr p d) = nbr (f p) (σ d)
  tg : ∀ p d, d < 4 → g (nbr p d) = nbr (g p) (τ d)
  sum : ∀ F : Nat → Nat, F (τ 0) + F (τ 1) + F (τ 2) + F (τ 3) = F 0 + F 1 + F 2 + F 3
theorem mapS_sorted (f : Pt → Pt) (ps : List Pt) : SortS (mapS f ps) := putAll_sorted _ _ List.Pairwise.nil
theorem mapS_of {f : Pt → Pt} {ps : List Pt} {q : Pt} : q ∈ mapS f ps ↔ ∃ p ∈ ps, f p = q := by
  unfold mapS; rw [putAll_mem]; simp
def InB (ps : List Pt) (p : Pt) : Prop := ((boxB ps).lx ≤ p.x ∧ p.x ≤ (boxB ps).hx) ∧ (boxB ps).ly ≤ p.y ∧ p.y ≤ (boxB ps).hy
section
variable {f g : Pt → Pt} {σ τ : Nat → Nat} (T : Turn f g σ τ) {ps : List Pt}
include T
theorem mapS_iff {q : Pt} : q ∈ mapS f ps ↔ g q ∈ ps := by
  rw [mapS_of]
  constructor
  · rintro ⟨p, hp, rfl⟩
    rw [T.gf]; exact hp
  · intro h
    exact ⟨g q, h, T.fg q⟩
theorem mapS_perm (hS : SortS ps) : (mapS f ps).Perm (ps.map f) := by
  rw [List.perm_ext_iff_of_nodup (mapS_sorted f ps).nodup]
  · intro q
    rw [mapS_of, List.mem_map]
  · rw [List.nodup_iff_pairwise_ne, List.pairwise_map]
    refine List.Pairwise.imp ?_ hS.nodup
    intro a b hne e
    exact hne (by rw [← T.gf a, ← T.gf b, e])
theorem mapS_len (hS : SortS ps) : (mapS f ps).length = ps.length := by rw [(mapS_perm T hS).length_eq, List.length_map]
theorem mapS_perim (hS : SortS ps) : perim (mapS f ps) = perim ps := by
  have h1 : ((mapS f ps).map (outN (mapS f ps))).sum = ((ps.map f).map (outN (mapS f ps))).sum := ((mapS_perm T hS).map _).sum_nat
  have ho : ∀ p d, d < 4 → oD (mapS f ps) (f p) d = oD ps p (τ d) := fun p d hd => by
    have h2 : nbr (f p) d ∈ mapS f ps ↔ nbr p (τ d) ∈ ps := by rw [mapS_iff T, T.tg _ _ hd, T.gf]
    unfold oD
    by_cases hm : nbr p (τ d) ∈ ps
    · rw [if_pos hm, if_pos (h2.2 hm)]
    · rw [if_neg hm, if_neg (fun x => hm (h2.1 x))]
  unfold perim
  rw [h1, List.map_map]
  refine sum_congr fun p hp => ?_
  show outN (mapS f ps) (f p) = outN ps p
  unfold outN
  rw [ho p 0 (by omega), ho p 1 (by omega), ho p 2 (by omega), ho p 3 (by omega)]
  exact T.sum (oD ps p)
theorem mapS_holes (hS : Shp ps) (hn : 0 < ps.length) (hT : Shp (mapS f ps)) (hm : 0 < (mapS f ps).length) (hbox : ∀ p, InB ps p ↔ InB (mapS f ps) (f p)) (hedge : ∀ p, edgeB (mapS f ps) (f p) = edgeB ps p) : (holesB ps).length = (holesB (mapS f ps)).length := by
  have hF : ∀ p, p ∈ freeB ps ↔ f p ∈ freeB (mapS f ps) := fun p => by
    rw [freeB_mem hS hn, freeB_mem hT hm, mapS_iff T, T.gf]
    exact and_congr (hbox p) Iff.rfl
  have hG : ∀ q, q ∈ freeB (mapS f ps) ↔ g q ∈ freeB ps := fun q => by rw [hF, T.fg]
  refine holes_eq hS hn hT hm (f := f) (g := g) ⟨fun p hp => (hF p).1 hp, fun p d hp hd hnb => ?_, fun p hp he => ⟨f p, .one ((hF p).1 hp), by rw [hedge]; exact he⟩⟩ ⟨fun q hq => (hG q).1 hq, fun q d hq hd hnb => ?_, fun q hq he => ⟨g q, .one ((hG q).1 hq), by rw [← hedge, T.fg]; exact he⟩⟩ (fun p hp => by rw [T.gf]; exact .one hp) (fun q hq => by rw [T.fg]; exact .one hq)
  · rw [T.sf p d hd]
    exact .near ((hF p).1 hp) (T.sl d hd) (by rw [← T.sf p d hd]; exact (hF _).1 hnb)
  · rw [T.tg q d hd]
    exact .near ((hG q).1 hq) (T.tl d hd) (by rw [← T.tg q d hd]; exact (hG _).1 hnb)
end
def rotP (p : Pt) : Pt := ⟨p.y, -p.x⟩
def mirP (p : Pt) : Pt := ⟨-p.x, p.y⟩
def movP (c : Pt) (p : Pt) : Pt := ⟨p.x - c.x, p.y - c.y⟩
theorem four {d : Nat} (h : d < 4) : d = 0 ∨ d = 1 ∨ d = 2 ∨ d = 3 := by omega
theorem rot_turn : Turn rotP (fun q => ⟨-q.y, q.x⟩) (fun d => (d + 1) % 4) (fun d => (d + 3) % 4) where
  gf p := by cases p; simp [rotP]
  fg p := by cases p; simp [rotP]
  sl d h := by show (d + 1) % 4 < 4; omega
  tl d h := by show (d + 3) % 4 < 4; omega
  sf p d h := by cases p; rcases four h with rfl | rfl | rfl | rfl <;> simp [rotP, nbr, stepX, stepY] <;> omega
  tg p d h := by cases p; rcases four h with rfl | rfl | rfl | rfl <;> simp [rotP, nbr, stepX, stepY] <;> omega
  sum F := by show F 3 + F 0 + F 1 + F 2 = _; omega
theorem mir_turn : Turn mirP mirP (fun d => (4 - d) % 4) (fun d => (4 - d) % 4) where
  gf p := by cases p; simp [mirP]
  fg p := by cases p; simp [mirP]
  sl d h := by show (4 - d) % 4 < 4; omega
  tl d h := by show (4 - d) % 4 < 4; omega
  sf p d h := by cases p; rcases four h with rfl | rfl | rfl | rfl <;> simp [mirP, nbr, stepX, stepY] <;> omega
  tg p d h := by cases p; rcases four h with rfl | rfl | rfl | rfl <;> simp [mirP, nbr, stepX, stepY] <;> omega
  sum F := by show F 0 + F 3 + F 2 + F 1 = _; omega
theorem mov_turn (c : Pt) : Turn (movP c) (movP ⟨-c.x, -c.y⟩) (fun d => d) (fun d => d) where
  gf p := by cases p; simp [movP]
  fg p := by cases p; simp [movP]
  sl d h := h
  tl d h := h
  sf p d h := by cases p; rcases four h with rfl | rfl | rfl | rfl <;> simp [movP, nbr, stepX, stepY] <;> omega
  tg p d h := by cases p; rcases four h with rfl | rfl | rfl | rfl <;> simp [movP, nbr, stepX, stepY] <;> omega
  sum F := rfl
section
variable {ps : List Pt} (hS : Shp ps) (hn : 0 < ps.length)
include hn
theorem mem_map {f : Pt → Pt} {p : Pt} (hp : p ∈ ps) : f p ∈ mapS f ps := mapS_of.2 ⟨p, hp, rfl⟩
theorem map_pos (f : Pt → Pt) : 0 < (mapS f ps).length := by
  obtain ⟨p, hp⟩ := List.exists_mem_of_length_pos hn
  exact List.length_pos_of_mem (mapS_of.2 ⟨p, hp, rfl⟩ : f p ∈ mapS f ps)
theorem rot_box : (boxB (mapS rotP ps)).lx = (boxB ps).ly ∧ (boxB (mapS rotP ps)).hx = (boxB ps).hy ∧ (boxB (mapS rotP ps)).ly = -(boxB ps).hx ∧ (boxB (mapS rotP ps)).hy = -(boxB ps).lx := by
  obtain ⟨⟨p1, m1, e1⟩, ⟨p2, m2, e2⟩, ⟨p3, m3, e3⟩, ⟨p4, m4, e4⟩⟩ := boxB_at hn
  refine boxB_is (map_pos hn rotP) (fun q hq => ?_) ⟨_, mem_map hn m3, by simp [rotP, e3]⟩ ⟨_, mem_map hn m4, by simp [rotP, e4]⟩ ⟨_, mem_map hn m2, by simp [rotP, e2]⟩ ⟨_, mem_map hn m1, by simp [rotP, e1]⟩
  obtain ⟨p, hp, rfl⟩ := mapS_of.1 hq
  have := boxB_in hp
  simp only [rotP]
  omega
theorem mir_box : (boxB (mapS mirP ps)).lx = -(boxB ps).hx ∧ (boxB (mapS mirP ps)).hx = -(boxB ps).lx ∧ (boxB (mapS mirP ps)).ly = (boxB ps).ly ∧ (boxB (mapS mirP ps)).hy = (boxB ps).hy := by
  obtain ⟨⟨p1, m1, e1⟩, ⟨p2, m2, e2⟩, ⟨p3, m3, e3⟩, ⟨p4, m4, e4⟩⟩ := boxB_at hn
  refine boxB_is (map_pos hn mirP) (fun q hq => ?_) ⟨_, mem_map hn m2, by simp [mirP, e2]⟩ ⟨_, mem_map hn m1, by simp [mirP, e1]⟩ ⟨_, mem_map hn m3, by simp [mirP, e3]⟩ ⟨_, mem_map hn m4, by simp [mirP, e4]⟩
  obtain ⟨p, hp, rfl⟩ := mapS_of.1 hq
  have := boxB_in hp
  simp only [mirP]
  omega
theorem mov_box (c : Pt) : (boxB (mapS (movP c) ps)).lx = (boxB ps).lx - c.x ∧ (boxB (mapS (movP c) ps)).hx = (boxB ps).hx - c.x ∧ (boxB (mapS (movP c) ps)).ly = (boxB ps).ly - c.y ∧ (boxB (mapS (movP c) ps)).hy = (boxB ps).hy - c.y := by
  obtain ⟨⟨p1, m1, e1⟩, ⟨p2, m2, e2⟩, ⟨p3, m3, e3⟩, ⟨p4, m4, e4⟩⟩ := boxB_at hn
  refine boxB_is (map_pos hn (movP c)) (fun q hq => ?_) ⟨_, mem_map hn m1, by simp [movP, e1]⟩ ⟨_, mem_map hn m2, by simp [movP, e2]⟩ ⟨_, mem_map hn m3, by simp [movP, e3]⟩ ⟨_, mem_map hn m4, by simp [movP, e4]⟩
  obtain ⟨p, hp, rfl⟩ := mapS_of.1 hq
  have := boxB_in hp
  simp only [movP]
  omega
include hS
theorem rot_holes (hT : Shp (mapS rotP ps)) : (holesB (mapS rotP ps)).length = (holesB ps).length := by
  obtain ⟨e1, e2, e3, e4⟩ := rot_box hn
  refine (mapS_holes rot_turn hS hn hT (map_pos hn _) (fun p => ?_) (fun p => ?_)).symm
  · unfold InB; rw [e1, e2, e3, e4]; simp only [rotP]; omega
  · unfold edgeB; rw [e1, e2, e3, e4, Bool.eq_iff_iff]; simp only [rotP, Bool.or_eq_true, beq_iff_eq]; omega
theorem mir_holes (hT : Shp (mapS mirP ps)) : (holesB (mapS mirP ps)).length = (holesB ps).length := by
  obtain ⟨e1, e2, e3, e4⟩ := mir_box hn
  refine (mapS_holes mir_turn hS hn hT (map_pos hn _) (fun p => ?_) (fun p => ?_)).symm
  · unfold InB; rw [e1, e2, e3, e4]; simp only [mirP]; omega
  · unfold edgeB; rw [e1, e2, e3, e4, Bool.eq_iff_iff]; simp only [mirP, Bool.or_eq_true, beq_iff_eq]; omega
theorem mov_holes (c : Pt) (hT : Shp (mapS (movP c) ps)) : (holesB (mapS (movP c) ps)).length = (holesB ps).length := by
  obtain ⟨e1, e2, e3, e4⟩ := mov_box hn c
  refine (mapS_holes (mov_turn c) hS hn hT (map_pos hn _) (fun p => ?_) (fun p => ?_)).symm
  · unfold InB; rw [e1, e2, e3, e4]; simp only [movP]; omega
  · unfold edgeB; rw [e1, e2, e3, e4, Bool.eq_iff_iff]; simp only [movP, Bool.or_eq_true, beq_iff_eq]; omega
end
/-- the sides that are not open -/
def sideL (S L : List Pt) (d : Nat) : List Pt := L.filter fun p => decide (nbr p d ∈ S)
theorem out_all (S : List Pt) : ∀ L : List Pt, (L.map (outN S)).sum + ((sideL S L 0).length + (sideL S L 1).length + (sideL S L 2).length + (sideL S L 3).length) = 4 * L.length
  | [] => rfl
  | p :: L => by
    have ih := out_all S L
    have h : ∀ d, (sideL S (p :: L) d).length + oD S p d = (sideL S L d).length + 1 := fun d => by
      unfold sideL oD
      rw [List.filter_cons]
      by_cases hm : nbr p d ∈ S
      · simp [hm]
      · simp [hm]
    have h0 := h 0
    have h1 := h 1
    have h2 := h 2
    have h3 := h 3
    rw [List.map_cons, List.sum_cons, List.length_cons]
    unfold outN at ih ⊢
    omega
theorem nbr_inj {p q : Pt} {d : Nat} (hd : d < 4) (h : nbr p d = nbr q d) : p = q := by rw [← nbr_back (p := p) hd, ← nbr_back (p := q) hd, h]
theorem side_le {S : List Pt} (hS : S.Nodup) {d : Nat} (hd : d < 4) : (sideL S S d).length ≤ (sideL S S ((d + 2) % 4)).length := by
  refine pick_le _ _ (fun a b => b = nbr a d) (fun p hp => ?_) ?_
  · obtain ⟨h1, h2⟩ := List.mem_filter.1 hp
    exact ⟨nbr p d, List.mem_filter.2 ⟨of_decide_eq_true h2, decide_eq_true (by rw [nbr_back hd]; exact h1)⟩, rfl⟩
  · refine List.Pairwise.imp ?_ (List.Pairwise.sublist List.filter_sublist hS)
    rintro a b hne c ⟨h1, h2⟩
    exact hne (nbr_inj hd (h1.symm.trans h2))
/-- a perimeter is even -/
theorem perim_even {ps : List Pt} (hS : SortS ps) : perim ps % 2 = 0 := by
  have h := out_all ps ps
  have a := side_le hS.nodup (show 0 < 4 by omega)
  have b := side_le hS.nodup (show 2 < 4 by omega)
  have c := side_le hS.nodup (show 1 < 4 by omega)
  have d := side_le hS.nodup (show 3 < 4 by omega)
  simp only [show (0 + 2) % 4 = 2 from rfl, show (2 + 2) % 4 = 0 from rfl, show (1 + 2) % 4 = 3 from rfl, show (3 + 2) % 4 = 1 from rfl] at a b c d
  unfold perim
  omega
end Go.Proofs.Ytkppijcjmhkkkaa
/- Plain: the symmetries of a shape. -/

namespace Go.Proofs.Ytkppijcjmhkkkaa
open Go.RowKit
set_option linter.unusedSectionVars false
def rotN : Nat → Pt → Pt
  | 0, p => p
  | n + 1, p => rotP (rotN n p)
/-- a point behind a symmetry -/
def tp (s : Nat) (p : Pt) : Pt := rotN (s % 4) (if 4 ≤ s then mirP p else p)
def nf (ps : List Pt) : List Pt := mapS (movP ⟨(boxB ps).lx, (boxB ps).ly⟩) ps
def turnP (s : Nat) (ps : List Pt) : List Pt := nf (mapS (tp s) ps)
def mulS (s t : Nat) : Nat := if s < 4 then (s + t) % 4 + 4 * (t / 4) else (s + 4 - t % 4) % 4 + 4 * (1 - t / 4)
def invS (s : Nat) : Nat := if s < 4 then (4 - s) % 4 else s
theorem eight {s : Nat} (h : s < 8) : s = 0 ∨ s = 1 ∨ s = 2 ∨ s = 3 ∨ s = 4 ∨ s = 5 ∨ s = 6 ∨ s = 7 := by omega
theorem mapS_comp (f g : Pt → Pt) (ps : List Pt) : mapS f (mapS g ps) = mapS (fun p => f (g p)) ps := by
  refine SortS.ext (mapS_sorted _ _) (mapS_sorted _ _) fun q => ?_
  rw [mapS_of, mapS_of]
  constructor
  · rintro ⟨p, hp, rfl⟩
    obtain ⟨r, hr, rfl⟩ := mapS_of.1 hp
    exact ⟨r, hr, rfl⟩
  · rintro ⟨r, hr, rfl⟩
    exact ⟨g r, mapS_of.2 ⟨r, hr, rfl⟩, rfl⟩
theorem mapS_same {f g : Pt → Pt} (h : ∀ p, f p = g p) (ps : List Pt) : mapS f ps = mapS g ps := by rw [show f = g from funext h]
theorem tp_mul {s t : Nat} (hs : s < 8) (ht : t < 8) (p : Pt) : tp s (tp t p) = tp (mulS s t) p := by
  cases p
  rcases eight hs with rfl | rfl | rfl | rfl | rfl | rfl | rfl | rfl <;> rcases eight ht with rfl | rfl | rfl | rfl | rfl | rfl | rfl | rfl <;> simp [tp, mulS, rotN, rotP, mirP]
theorem tp_mov {s : Nat} (hs : s < 8) (c p : Pt) : tp s (movP c p) = movP (tp s c) (tp s p) := by
  cases p
  cases c
  rcases eight hs with rfl | rfl | rfl | rfl | rfl | rfl | rfl | rfl <;> simp [tp, rotN, rotP, mirP, movP] <;> omega
theorem mul_lt {s t : Nat} (hs : s < 8) (ht : t < 8) : mulS s t < 8 := by unfold mulS; split <;> omega
theorem mul_inv {s : Nat} (hs : s < 8) : mulS (invS s) s = 0 := by
  rcases eight hs with rfl | rfl | rfl | rfl | rfl | rfl | rfl | rfl <;> decide
theorem inv_lt {s : Nat} (hs : s < 8) : invS s < 8 := by unfold invS; split <;> omega
section
variable {ps : List Pt} (hn : 0 < ps.length)
include hn
theorem nf_mov (c : Pt) : nf (mapS (movP c) ps) = nf ps := by
  obtain ⟨e1, _, e3, _⟩ := mov_box hn c
  unfold nf
  rw [e1, e3, mapS_comp]
  refine mapS_same (fun p => ?_) ps
  cases p
  simp only [movP]
  congr 1 <;> omega
theorem turn_mov {s : Nat} (hs : s < 8) (c : Pt) : turnP s (mapS (movP c) ps) = turnP s ps := by
  unfold turnP
  rw [mapS_comp, mapS_same (tp_mov hs c) ps, ← mapS_comp (movP (tp s c)) (tp s), nf_mov (map_pos hn _)]
theorem turn_nf {s : Nat} (hs : s < 8) : turnP s (nf ps) = turnP s ps := turn_mov hn hs _
theorem turn_turn {s t : Nat} (hs : s < 8) (ht : t < 8) : turnP s (turnP t ps) = turnP (mulS s t) ps := by
  show turnP s (nf (mapS (tp t) ps)) = _
  rw [turn_nf (map_pos hn _) hs]
  unfold turnP
  rw [mapS_comp, mapS_same (tp_mul hs ht)]
theorem turn_zero (hS : SortS ps) : turnP 0 ps = nf ps := by
  unfold turnP
  congr 1
  refine SortS.ext (mapS_sorted _ _) hS fun q => ?_
  rw [mapS_of]
  constructor
  · rintro ⟨p, hp, rfl⟩; exact hp
  · intro h; exact ⟨q, h, rfl⟩
/-- each symmetry is undone by another one -/
theorem turn_back (hS : SortS ps) {s : Nat} (hs : s < 8) : turnP (invS s) (turnP s ps) = nf ps := by
  rw [turn_turn hn (inv_lt hs) hs, mul_inv hs, turn_zero hn hS]
theorem sym_mul (hS : SortS ps) {s t : Nat} (hs : s < 8) (ht : t < 8) (h1 : turnP s ps = nf ps) (h2 : turnP t ps = nf ps) : turnP (mulS s t) ps = nf ps := by
  rw [← turn_turn hn hs ht, h2, turn_nf hn hs, h1]
end
def symL (ps : List Pt) : List Nat := (List.range 8).filter fun k => decide (turnP k ps = nf ps)
/-- what is closed under products has 1, 2, 4 or 8 members -/
def cntB (b : Nat → Bool) : Nat := ((List.range 8).filter b).length
def vecB (n k : Nat) : Bool := n.testBit k
def okV (n : Nat) : Bool := !(vecB n 0 && (List.range 8).all fun s => (List.range 8).all fun t => !(vecB n s && vecB n t) || vecB n (mulS s t)) || (cntB (vecB n) == 1 || cntB (vecB n) == 2 || cntB (vecB n) == 4 || cntB (vecB n) == 8)
theorem ok_all : (List.range 256).all okV = true := by decide +kernel
theorem cnt_vec (n : Nat) (hn : n < 256) (h0 : vecB n 0 = true) (hc : ∀ s, s < 8 → ∀ t, t < 8 → vecB n s = true → vecB n t = true → vecB n (mulS s t) = true) : cntB (vecB n) = 1 ∨ cntB (vecB n) = 2 ∨ cntB (vecB n) = 4 ∨ cntB (vecB n) = 8 := by
  have h := List.all_eq_true.1 ok_all n (List.mem_range.2 hn)
  unfold okV at h
  have hall : ((List.range 8).all fun s => (List.range 8).all fun t => !(vecB n s && vecB n t) || vecB n (mulS s t)) = true := by
    rw [List.all_eq_true]
    intro s hs
    rw [List.all_eq_true]
    intro t ht
    cases h1 : vecB n s with
    | false => simp
    | true =>
      cases h2 : vecB n t with
      | false => simp
      | true => simp [hc s (List.mem_range.1 hs) t (List.mem_range.1 ht) h1 h2]
  rw [h0, hall] at h
  simp only [Bool.and_self, Bool.not_true, Bool.false_or, Bool.or_eq_true, beq_iff_eq] at h
  omega
theorem bit_vec (b : Nat → Bool) : ∃ n, n < 256 ∧ ∀ k, k < 8 → vecB n k = b k := by
  have h : ∀ b0 b1 b2 b3 b4 b5 b6 b7 : Bool, ∃ n, n < 256 ∧ vecB n 0 = b0 ∧ vecB n 1 = b1 ∧ vecB n 2 = b2 ∧ vecB n 3 = b3 ∧ vecB n 4 = b4 ∧ vecB n 5 = b5 ∧ vecB n 6 = b6 ∧ vecB n 7 = b7 := by
    intro b0 b1 b2 b3 b4 b5 b6 b7
    refine ⟨b0.toNat + 2 * b1.toNat + 4 * b2.toNat + 8 * b3.toNat + 16 * b4.toNat + 32 * b5.toNat + 64 * b6.toNat + 128 * b7.toNat, ?_⟩
    revert b0 b1 b2 b3 b4 b5 b6 b7
    decide +kernel
  obtain ⟨n, hn, h0, h1, h2, h3, h4, h5, h6, h7⟩ := h (b 0) (b 1) (b 2) (b 3) (b 4) (b 5) (b 6) (b 7)
  refine ⟨n, hn, fun k hk => ?_⟩
  rcases eight hk with rfl | rfl | rfl | rfl | rfl | rfl | rfl | rfl <;> assumption
theorem cnt_closed (b : Nat → Bool) (h0 : b 0 = true) (hc : ∀ s, s < 8 → ∀ t, t < 8 → b s = true → b t = true → b (mulS s t) = true) : cntB b = 1 ∨ cntB b = 2 ∨ cntB b = 4 ∨ cntB b = 8 := by
  obtain ⟨n, hn, hb⟩ := bit_vec b
  have e : cntB b = cntB (vecB n) := by
    unfold cntB
    congr 1
    exact List.filter_congr fun k hk => (hb k (List.mem_range.1 hk)).symm
  rw [e]
  refine cnt_vec n hn (by rw [hb 0 (by omega)]; exact h0) fun s hs t ht h1 h2 => ?_
  rw [hb _ (mul_lt hs ht)]
  rw [hb s hs] at h1
  rw [hb t ht] at h2
  exact hc s hs t ht h1 h2
theorem sym_count {ps : List Pt} (hn : 0 < ps.length) (hS : SortS ps) : (symL ps).length = 1 ∨ (symL ps).length = 2 ∨ (symL ps).length = 4 ∨ (symL ps).length = 8 := by
  refine cnt_closed (fun k => decide (turnP k ps = nf ps)) (decide_eq_true (turn_zero hn hS)) fun s hs t ht h1 h2 => ?_
  exact decide_eq_true (sym_mul hn hS hs ht (of_decide_eq_true h1) (of_decide_eq_true h2))
/-- moved home, as the program does it -/
theorem home_nf {ps : List Pt} (hS : SortS ps) : homeP ps = nf ps := by
  refine SortS.ext ?_ (mapS_sorted _ _) fun q => ?_
  · unfold homeP SortS
    rw [List.pairwise_map]
    refine List.Pairwise.imp (fun {a b} h => ?_) hS
    rw [ltP_iff] at h ⊢
    simp only
    omega
  · unfold nf homeP
    rw [mapS_of, List.mem_map]
    constructor
    · rintro ⟨p, hp, rfl⟩
      exact ⟨p, hp, by unfold movP boxB; simp only; congr 1 <;> omega⟩
    · rintro ⟨p, hp, rfl⟩
      exact ⟨p, hp, by unfold movP boxB; simp only; congr 1 <;> omega⟩
/-- the points lie near the origin -/
def Near (B : Nat) (ps : List Pt) : Prop := ∀ p ∈ ps, (-(B : Int) ≤ p.x ∧ p.x ≤ B) ∧ (-(B : Int) ≤ p.y ∧ p.y ≤ B)
theorem near_rot {B : Nat} {ps : List Pt} (h : Near B ps) : Near B (mapS rotP ps) := fun q hq => by
  obtain ⟨p, hp, rfl⟩ := mapS_of.1 hq
  have := h p hp
  simp only [rotP]
  omega
theorem near_mir {B : Nat} {ps : List Pt} (h : Near B ps) : Near B (mapS mirP ps) := fun q hq => by
  obtain ⟨p, hp, rfl⟩ := mapS_of.1 hq
  have := h p hp
  simp only [mirP]
  omega
theorem near_shp {B : Nat} (hB : B ≤ 60) {ps : List Pt} (h : Near B ps) (hS : SortS ps) : Shp ps := Shp.of_sorted hS fun p hp => by have := h p hp; omega
theorem rotN_step (n : Nat) (f : Pt → Pt) (ps : List Pt) : mapS (fun p => rotN (n + 1) (f p)) ps = mapS rotP (mapS (fun p => rotN n (f p)) ps) := by rw [mapS_comp]; rfl
section
variable {ps : List Pt} (hn : 0 < ps.length) {B : Nat} (hB : B ≤ 60) (hS : SortS ps) (hN : Near B ps)
include hn hB hS hN
theorem rotN_all (f : Pt → Pt) (h0 : Near B (mapS f ps) ∧ (holesB (mapS f ps)).length = (holesB ps).length ∧ perim (mapS f ps) = perim ps ∧ (mapS f ps).length = ps.length) : ∀ n, Near B (mapS (fun p => rotN n (f p)) ps) ∧ (holesB (mapS (fun p => rotN n (f p)) ps)).length = (holesB ps).length ∧ perim (mapS (fun p => rotN n (f p)) ps) = perim ps ∧ (mapS (fun p => rotN n (f p)) ps).length = ps.length
  | 0 => h0
  | n + 1 => by
    obtain ⟨a, b, c, d⟩ := rotN_all f h0 n
    rw [rotN_step]
    have hp := map_pos hn (fun p => rotN n (f p))
    have hs := near_shp hB a (mapS_sorted _ _)
    have hr := near_rot a
    exact ⟨hr, by rw [rot_holes hs hp (near_shp hB hr (mapS_sorted _ _)), b], by rw [mapS_perim rot_turn (mapS_sorted _ _), c], by rw [mapS_len rot_turn (mapS_sorted _ _), d]⟩
theorem tp_all (s : Nat) : Near B (mapS (tp s) ps) ∧ (holesB (mapS (tp s) ps)).length = (holesB ps).length ∧ perim (mapS (tp s) ps) = perim ps ∧ (mapS (tp s) ps).length = ps.length := by
  by_cases h4 : 4 ≤ s
  · have e : mapS (tp s) ps = mapS (fun p => rotN (s % 4) (mirP p)) ps := mapS_same (fun p => by unfold tp; rw [if_pos h4]) ps
    rw [e]
    have hr := near_mir hN
    exact rotN_all hn hB hS hN mirP ⟨hr, mir_holes (near_shp hB hN hS) hn (near_shp hB hr (mapS_sorted _ _)), mapS_perim mir_turn hS, mapS_len mir_turn hS⟩ _
  · have e : mapS (tp s) ps = mapS (fun p => rotN (s % 4) ((fun q => q) p)) ps := mapS_same (fun p => by unfold tp; rw [if_neg h4]) ps
    rw [e]
    have e0 : mapS (fun q => q) ps = ps := SortS.ext (mapS_sorted _ _) hS fun q => by rw [mapS_of]; simp
    exact rotN_all hn hB hS hN (fun q => q) (by rw [e0]; exact ⟨hN, rfl, rfl, rfl⟩) _
end
theorem nf_near {ps : List Pt} (hn : 0 < ps.length) {B : Nat} (h : Near B ps) : Near (2 * B) (nf ps) := fun q hq => by
  obtain ⟨p, hp, rfl⟩ := mapS_of.1 hq
  have h1 := h p hp
  obtain ⟨⟨p1, m1, e1⟩, _, ⟨p3, m3, e3⟩, _⟩ := boxB_at hn
  have h2 := h p1 m1
  have h3 := h p3 m3
  have h4 := boxB_in hp
  simp only [movP]
  omega
/-- a symmetry keeps the holes, the perimeter and the number of the points -/
theorem turn_all {ps : List Pt} (hn : 0 < ps.length) {B : Nat} (hB : 2 * B ≤ 60) (hS : SortS ps) (hN : Near B ps) (s : Nat) : Shp (turnP s ps) ∧ (holesB (turnP s ps)).length = (holesB ps).length ∧ perim (turnP s ps) = perim ps ∧ (turnP s ps).length = ps.length := by
  obtain ⟨a, b, c, d⟩ := tp_all hn (B := B) (by omega) hS hN s
  have hp := map_pos hn (tp s)
  have hm := near_shp hB (nf_near hp a) (mapS_sorted _ _)
  unfold turnP nf
  unfold nf at hm
  exact ⟨hm, by rw [mov_holes (near_shp (by omega) a (mapS_sorted _ _)) hp _ hm, b], by rw [mapS_perim (mov_turn _) (mapS_sorted _ _), c], by rw [mapS_len (mov_turn _) (mapS_sorted _ _), d]⟩
end Go.Proofs.Ytkppijcjmhkkkaa
