/- Walks: MeanBinding, the program's and the reference's. -/
import Derived.Test.YtfabgnnpgepcoaaP3
import Derived.Test.YtfabgnnpgepcoaaW27
namespace Go.Proofs.Ytfabgnnpgepcoaa
open Go.RowKit Go.Shelf
set_option linter.unusedSimpArgs false
set_option linter.unusedVariables false
attribute [local go_sem] BelowBy.cell BelowBy.cell_drew stillUpon givesUpon BelowBy.cell_drew2 BelowBy.cell_drew3

set_option maxRecDepth 100000 in
set_option maxHeartbeats 1000000 in
theorem strengthOf_any (A : Option Addr) (n c : Nat) (bs : List Bd) (w : World) (h : RdSl 3 RBd w A n bs) (hn : n ≤ 100000) (hs : ∀ (k : Nat) (b : Bd), bs[k]? = some b → 0 ≤ b.s ∧ b.s ≤ 4) :
    Calls Try.prog 86 #[.slice A n c] w fun e w' => e = .returned (.int .i64 (sumB bs)) ∧ Below w.heap.size w w' := by
  have hl := h.len
  go_enter Try.func86, Try.ntmps86
  go_wp2
  go_loopg [8, 3] n (fun r x y wr => ∃ k : Nat, k + r = n ∧ x = .int .i64 (k : Int) ∧ y = .int .i64 (sumB (bs.take k)) ∧ Below w.heap.size w wr)
  case atStart => exact ⟨0, by omega, rfl, rfl, bl_refl _⟩
  case round =>
    obtain ⟨k, hk, rfl, rfl, hbw⟩ := hrel
    have hb := sumB_bound (bs := bs.take k) (fun j b hj => hs j b (by rw [List.getElem?_take] at hj; split at hj; exact hj; cases hj))
    have htl : (bs.take k).length ≤ k := List.length_take_le _ _
    have r1 := h.below RBd.stable hbw
    by_cases hlt : k < n
    · obtain ⟨b, o, rfl, hb1, hc⟩ := r1.ptr (by omega)
      obtain ⟨e, he⟩ := h.get hlt
      obtain ⟨c0, c1, c2⟩ := hc k e he
      obtain ⟨S, hS⟩ : ∃ S, sumB (bs.take k) = S := ⟨_, rfl⟩
      obtain ⟨e0, e4⟩ := hs k e he
      have hnx := Lib.hid (sumB_take he)
      rw [hS] at hb hnx
      rw [hS]
      obtain ⟨S0, S4⟩ := hb
      have S5 : S ≤ 400000 := by omega
      clear hc he hs h r1 hS S4 htl
      go_wp2
      go_roundg (n - (k + 1))
      case measure => omega
      case rel => exact ⟨k + 1, by omega, by go_num, by rw [hnx.out], by repeat (first | with_reducible exact bl_refl _ | with_reducible assumption | with_reducible refine bl_al ?_ _ | with_reducible refine bl_dr ?_ | with_reducible refine bl_tr ?_ (by assumption) | with_reducible refine bl_set ?_ ?_ _ | with_reducible exact Nat.le_refl _ | omega | (simp only [World.size_alloc, World.size_setCell, World.size_drew] at *; omega) | (dsimp only; omega) | (simp; done) | (simp; omega))⟩
    · obtain rfl : k = n := by omega
      clear r1
      go_wp2
      go_ret
      exact ⟨ret_int (by rw [List.take_of_length_le (by omega)]), hbw⟩
theorem MakeFrac_at {ai bi : Int} (a b : Nat) {w : World} (h0 : ai = a) (h1 : bi = b) (hb : 0 < b) (ha9 : a ≤ 1000000000) (hb9 : b ≤ 1000000000) :
    Calls Try.prog 100 #[.int .i64 ai, .int .i64 bi] w (FrRes w a b) := by
  subst h0 h1; exact MakeFrac_any a b w hb ha9 hb9
theorem l01Make_at {ai bi : Int} (a b : Nat) {w : World} (h0 : ai = a) (h1 : bi = b) (hb : 0 < b) (ha9 : a ≤ 1000000000) (hb9 : b ≤ 1000000000) :
    Calls Try.prog 98 #[.int .i64 ai, .int .i64 bi] w (FrRes w a b) := by
  subst h0 h1; exact l01Make_any a b w hb ha9 hb9
def meanCode (v : Bool) (n : Nat) : Int := if v then (if n = 0 then 3 else 0) else 1
noncomputable def meanR (gs : List Gl) (ts : List Ti) (xs : List Pl) : Nat × Nat × Int :=
  if meanCode (validAsmB gs ts xs) xs.length ≠ 0 then (0, 0, meanCode (validAsmB gs ts xs) xs.length)
  else (fracN (2 * sumB (bondsL gs ts xs)).toNat xs.length, fracD (2 * sumB (bondsL gs ts xs)).toNat xs.length, 0)
def FracRes (w : World) (r : Nat × Nat × Int) (e : Ending) (w' : World) : Prop := e = .returned (.tuple #[.agg #[.int .i64 (r.1 : Int), .int .i64 (r.2.1 : Int)], .int .i64 r.2.2]) ∧ Below w.heap.size w w'
theorem FracRes.of {w : World} {r : Nat × Nat × Int} {a b : Nat} {c : Int} {w' : World} (h : (a, b, c) = r) (hb : Below w.heap.size w w') : FracRes w r (.returned (.tuple #[.agg #[.int .i64 (a : Int), .int .i64 (b : Int)], .int .i64 c])) w' := by
  subst h; exact ⟨rfl, hb⟩
set_option maxHeartbeats 1000000 in
theorem tiledCode_any (G T A : Option Addr) (n cg m ct q ca : Nat) (gs : List Gl) (ts : List Ti) (xs : List Pl) (w : World) (h : SA w G n T m A q gs ts xs) :
    Calls Try.prog 99 #[.agg #[.slice G n cg, .slice T m ct], .agg #[.slice A q ca]] w fun e w' => e = .returned (.int .i64 (meanCode (validAsmB gs ts xs) q)) ∧ Below w.heap.size w w' := by
  have hH := Lib.hid h
  clear h
  cases hv : validAsmB gs ts xs
  · have hvH := Lib.hid hv
    clear hv
    go_enter Try.func99, Try.ntmps99
    go_wp2_with fail
    refine ((hH.out.below (by repeat (first | with_reducible exact bl_refl _ | with_reducible assumption | with_reducible refine bl_al ?_ _ | with_reducible refine bl_dr ?_ | with_reducible refine bl_tr ?_ (by assumption) | with_reducible refine bl_set ?_ ?_ _ | with_reducible exact Nat.le_refl _ | omega | (simp only [World.size_alloc, World.size_setCell, World.size_drew] at *; omega) | (dsimp only; omega) | (simp; done) | (simp; omega)))).valid hvH.out).mono ?_
    rintro e w1 ⟨rfl, hb1⟩
    go_wp2
    go_ret
    exact ⟨rfl, by repeat (first | with_reducible exact bl_refl _ | with_reducible assumption | with_reducible refine bl_al ?_ _ | with_reducible refine bl_dr ?_ | with_reducible refine bl_tr ?_ (by assumption) | with_reducible refine bl_set ?_ ?_ _ | with_reducible exact Nat.le_refl _ | omega | (simp only [World.size_alloc, World.size_setCell, World.size_drew] at *; omega) | (dsimp only; omega) | (simp; done) | (simp; omega))⟩
  · have hvH := Lib.hid hv
    clear hv
    by_cases h0 : q = 0
    · subst h0
      go_enter Try.func99, Try.ntmps99
      go_wp2_with fail
      refine ((hH.out.below (by repeat (first | with_reducible exact bl_refl _ | with_reducible assumption | with_reducible refine bl_al ?_ _ | with_reducible refine bl_dr ?_ | with_reducible refine bl_tr ?_ (by assumption) | with_reducible refine bl_set ?_ ?_ _ | with_reducible exact Nat.le_refl _ | omega | (simp only [World.size_alloc, World.size_setCell, World.size_drew] at *; omega) | (dsimp only; omega) | (simp; done) | (simp; omega)))).valid hvH.out).mono ?_
      rintro e w1 ⟨rfl, hb1⟩
      obtain ⟨chb1, fhb1, shb1, thb1⟩ := bcell hb1
      go_wp2
      go_ret
      exact ⟨rfl, by repeat (first | with_reducible exact bl_refl _ | with_reducible assumption | with_reducible refine bl_al ?_ _ | with_reducible refine bl_dr ?_ | with_reducible refine bl_tr ?_ (by assumption) | with_reducible refine bl_set ?_ ?_ _ | with_reducible exact Nat.le_refl _ | omega | (simp only [World.size_alloc, World.size_setCell, World.size_drew] at *; omega) | (dsimp only; omega) | (simp; done) | (simp; omega))⟩
    · have hq0 : ((q : Int) == 0) = false := by simp; omega
      have hm : meanCode true q = 0 := by unfold meanCode; rw [if_pos rfl, if_neg h0]
      have hmH := Lib.hid hm
      clear hm
      go_enter Try.func99, Try.ntmps99
      go_wp2_with fail
      refine ((hH.out.below (by repeat (first | with_reducible exact bl_refl _ | with_reducible assumption | with_reducible refine bl_al ?_ _ | with_reducible refine bl_dr ?_ | with_reducible refine bl_tr ?_ (by assumption) | with_reducible refine bl_set ?_ ?_ _ | with_reducible exact Nat.le_refl _ | omega | (simp only [World.size_alloc, World.size_setCell, World.size_drew] at *; omega) | (dsimp only; omega) | (simp; done) | (simp; omega)))).valid hvH.out).mono ?_
      rintro e w1 ⟨rfl, hb1⟩
      obtain ⟨chb1, fhb1, shb1, thb1⟩ := bcell hb1
      go_wp2
      go_ret
      exact ⟨ret_int hmH.out.symm, by repeat (first | with_reducible exact bl_refl _ | with_reducible assumption | with_reducible refine bl_al ?_ _ | with_reducible refine bl_dr ?_ | with_reducible refine bl_tr ?_ (by assumption) | with_reducible refine bl_set ?_ ?_ _ | with_reducible exact Nat.le_refl _ | omega | (simp only [World.size_alloc, World.size_setCell, World.size_drew] at *; omega) | (dsimp only; omega) | (simp; done) | (simp; omega))⟩
theorem bonds_s {gs : List Gl} {ts : List Ti} {xs : List Pl} (hV : Valid gs ts xs) : ∀ (k : Nat) (b : Bd), (bondsL gs ts xs)[k]? = some b → 0 ≤ b.s ∧ b.s ≤ 4 := fun k b h => by
  have := bondsL_at hV h; omega
set_option maxRecDepth 100000 in
set_option maxHeartbeats 1000000 in
theorem MeanBinding_any (G T A : Option Addr) (n cg m ct q ca : Nat) (gs : List Gl) (ts : List Ti) (xs : List Pl) (w : World) (h : SA w G n T m A q gs ts xs) :
    Calls Try.prog 47 #[.agg #[.slice G n cg, .slice T m ct], .agg #[.slice A q ca]] w (FracRes w (meanR gs ts xs)) := by
  have hql := h.A.len
  have hH := Lib.hid h
  clear h
  obtain ⟨cc, hcc⟩ : ∃ cc, meanCode (validAsmB gs ts xs) q = cc := ⟨_, rfl⟩
  have hccH := Lib.hid hcc
  by_cases h0 : cc = 0
  · have hv : validAsmB gs ts xs = true := by
      cases hv : validAsmB gs ts xs with
      | true => rfl
      | false => rw [hv] at hcc; rw [h0] at hcc; cases hcc
    have hqp : 0 < q := by
      rcases Nat.eq_zero_or_pos q with e | e
      · rw [hv, e, h0] at hcc; cases hcc
      · exact e
    have hV := valid_of hv
    have hbl := bondsL_len hV
    have hsb := sumB_bound (bonds_s hV)
    have hq5 := hV.len
    obtain ⟨S, hS⟩ : ∃ S : Nat, sumB (bondsL gs ts xs) = S := ⟨(sumB (bondsL gs ts xs)).toNat, by omega⟩
    have hS4 : S ≤ 4000 := by omega
    have hr : (fracN (2 * S) q, fracD (2 * S) q, (0 : Int)) = meanR gs ts xs := by
      unfold meanR
      rw [hql, hcc, if_neg (by simpa using h0), hS]
      have : (2 * (S : Int)).toNat = 2 * S := by omega
      rw [this]
    have hrH := Lib.hid hr
    have hSH := Lib.hid hS
    subst h0
    clear hr hS hcc hsb hv
    go_enter Try.func47, Try.ntmps47
    go_wp2_with fail
    refine (tiledCode_any _ _ _ _ _ _ _ _ _ gs ts xs _ (hH.out.below (by repeat (first | with_reducible exact bl_refl _ | with_reducible assumption | with_reducible refine bl_al ?_ _ | with_reducible refine bl_dr ?_ | with_reducible refine bl_tr ?_ (by assumption) | with_reducible refine bl_set ?_ ?_ _ | with_reducible exact Nat.le_refl _ | omega | (simp only [World.size_alloc, World.size_setCell, World.size_drew] at *; omega) | (dsimp only; omega) | (simp; done) | (simp; omega))))).mono ?_
    rw [hccH.out]
    rintro e w1 ⟨rfl, hb1⟩
    have hB1 : Below w.heap.size w w1 := by repeat (first | with_reducible exact bl_refl _ | with_reducible assumption | with_reducible refine bl_al ?_ _ | with_reducible refine bl_dr ?_ | with_reducible refine bl_tr ?_ (by assumption) | with_reducible refine bl_set ?_ ?_ _ | with_reducible exact Nat.le_refl _ | omega | (simp only [World.size_alloc, World.size_setCell, World.size_drew] at *; omega) | (dsimp only; omega) | (simp; done) | (simp; omega))
    have s1 : w.heap.size + 3 ≤ w1.heap.size := by have := hb1.size; simp at this; omega
    have y0 : w1.cell? ⟨w.heap.size, 0, none⟩ = some (.slice G n cg) := (hb1.cell (p := ⟨w.heap.size, 0, none⟩) (by go_simp)).trans (by go_simp)
    have y1 : w1.cell? ⟨w.heap.size, 1, none⟩ = some (.slice T m ct) := (hb1.cell (p := ⟨w.heap.size, 1, none⟩) (by go_simp)).trans (by go_simp)
    have y2 : w1.cell? ⟨w.heap.size + 1, 0, none⟩ = some (.slice A q ca) := (hb1.cell (p := ⟨w.heap.size + 1, 0, none⟩) (by go_simp)).trans (by go_simp)
    have y3 : w1.cell? ⟨w.heap.size + 2, 0, none⟩ = some (.int .i64 0) := (hb1.cell (p := ⟨w.heap.size + 2, 0, none⟩) (by simp)).trans (by go_simp)
    have y4 : w1.cell? ⟨w.heap.size + 2, 1, none⟩ = some (.int .i64 0) := (hb1.cell (p := ⟨w.heap.size + 2, 1, none⟩) (by simp)).trans (by go_simp)
    have f3 : w1.frozen? ⟨w.heap.size + 2, 0, none⟩ = false := (hb1.frozen (p := ⟨w.heap.size + 2, 0, none⟩) (by simp)).trans (by go_simp)
    have f4 : w1.frozen? ⟨w.heap.size + 2, 1, none⟩ = false := (hb1.frozen (p := ⟨w.heap.size + 2, 1, none⟩) (by simp)).trans (by go_simp)
    have l0 : w.heap.size < w1.heap.size := by omega
    have l1 : w.heap.size + 1 < w1.heap.size := by omega
    have l2 : w.heap.size + 2 < w1.heap.size := by omega
    clear hb1
    go_wp2
    refine wp_region_ord [(0, .q), (1, .q), (5, .q), (6, .q), (7, .q), (2, .g), (3, .g), (4, .q), (8, .g), (9, .q), (10, .q), (11, .b), (12, .q)] (by kernel_rfl) (by kernel_rfl) ?_
    simp only [pick, List.filterMap_cons, List.filterMap_nil, List.getElem?_toArray, List.getElem?_cons_zero, List.getElem?_cons_succ, Option.map_some]
    repeat (first | ((with_reducible refine wpD_p (fun K hK => ?_)); go_simp; refine hK _ ?_; clear hK K) | ((with_reducible refine wpD_q (fun K hK => ?_)); go_simp; (first | refine hK _ ?_ | (go_bits; refine hK _ ?_) | (go_bits; go_simp; refine hK _ ?_)); clear hK K))
    with_reducible refine wpD_g (fun K hK => ?_)
    go_simp
    refine ((hH.out.below (hB1.trans (Below.mono (by repeat (first | with_reducible exact bl_refl _ | with_reducible assumption | with_reducible refine bl_al ?_ _ | with_reducible refine bl_dr ?_ | with_reducible refine bl_tr ?_ (by assumption) | with_reducible refine bl_set ?_ ?_ _ | with_reducible exact Nat.le_refl _ | omega | (simp only [World.size_alloc, World.size_setCell, World.size_drew] at *; omega) | (dsimp only; omega) | (simp; done) | (simp; omega))) hB1.size))).bonds hV).mono ?_
    rintro e w2 ⟨v, rfl, hrow, hb2⟩
    refine ⟨_, rfl, hb2, hK _ _ ?_⟩
    clear hK K
    obtain ⟨Ab, cb, rfl, rdb⟩ := rd_of_row hrow
    have rdbH := Lib.hid rdb
    have s2 : w1.heap.size ≤ w2.heap.size := hb2.size
    have hc2 : Below w1.heap.size w1 w2 := by repeat (first | with_reducible exact bl_refl _ | with_reducible assumption | with_reducible refine bl_al ?_ _ | with_reducible refine bl_dr ?_ | with_reducible refine bl_tr ?_ (by assumption) | with_reducible refine bl_set ?_ ?_ _ | with_reducible exact Nat.le_refl _ | omega | (simp only [World.size_alloc, World.size_setCell, World.size_drew] at *; omega) | (dsimp only; omega) | (simp; done) | (simp; omega))
    clear hrow rdb
    repeat (first | ((with_reducible refine wpD_p (fun K hK => ?_)); go_simp; refine hK _ ?_; clear hK K) | ((with_reducible refine wpD_q (fun K hK => ?_)); go_simp; (first | refine hK _ ?_ | (go_bits; refine hK _ ?_) | (go_bits; go_simp; refine hK _ ?_)); clear hK K))
    with_reducible refine wpD_g (fun K hK => ?_)
    go_simp
    refine (strengthOf_any _ _ _ _ _ (rdbH.out.below RBd.stable (by repeat (first | with_reducible exact bl_refl _ | with_reducible assumption | with_reducible refine bl_al ?_ _ | with_reducible refine bl_dr ?_ | with_reducible refine bl_tr ?_ (by assumption) | with_reducible refine bl_set ?_ ?_ _ | with_reducible exact Nat.le_refl _ | omega | (simp only [World.size_alloc, World.size_setCell, World.size_drew] at *; omega) | (dsimp only; omega) | (simp; done) | (simp; omega)))) (by omega) (bonds_s hV)).mono ?_
    rw [hSH.out]
    rintro e w3 ⟨rfl, hb3⟩
    refine ⟨_, rfl, hb3, hK _ _ ?_⟩
    clear hK K
    have hc3 : Below w1.heap.size w1 w3 := bl_tr (by repeat (first | with_reducible exact bl_refl _ | with_reducible assumption | with_reducible refine bl_al ?_ _ | with_reducible refine bl_dr ?_ | with_reducible refine bl_tr ?_ (by assumption) | with_reducible refine bl_set ?_ ?_ _ | with_reducible exact Nat.le_refl _ | omega | (simp only [World.size_alloc, World.size_setCell, World.size_drew] at *; omega) | (dsimp only; omega) | (simp; done) | (simp; omega))) hb3
    have hSI : (S : Int) ≤ 4000 := by omega
    have hS0 : (0 : Int) ≤ (S : Int) := by omega
    have z2 := (hc3.cell (p := ⟨w.heap.size + 1, 0, none⟩) l1).trans y2
    have t3 := hc3.size
    have t1 : w.heap.size + 1 < w3.heap.size := by omega
    have w2S : IntKind.i64.wrap (2 * (S : Int)) = 2 * (S : Int) := wrap_in (by omega) (by omega)
    repeat (first | ((with_reducible refine wpD_p (fun K hK => ?_)); go_simp; refine hK _ ?_; clear hK K) | ((with_reducible refine wpD_q (fun K hK => ?_)); go_simp; (first | refine hK _ ?_ | (go_bits; refine hK _ ?_) | (go_bits; go_simp; refine hK _ ?_)); clear hK K))
    with_reducible refine wpD_g (fun K hK => ?_)
    go_simp
    refine (MakeFrac_at (2 * S) q (by omega) rfl hqp (by omega) (by omega)).mono ?_
    rintro e w4 ⟨rfl, hb4⟩
    refine ⟨_, rfl, hb4, hK _ _ ?_⟩
    clear hK K
    have hc4 : Below w1.heap.size w1 w4 := bl_tr (by repeat (first | with_reducible exact bl_refl _ | with_reducible assumption | with_reducible refine bl_al ?_ _ | with_reducible refine bl_dr ?_ | with_reducible refine bl_tr ?_ (by assumption) | with_reducible refine bl_set ?_ ?_ _ | with_reducible exact Nat.le_refl _ | omega | (simp only [World.size_alloc, World.size_setCell, World.size_drew] at *; omega) | (dsimp only; omega) | (simp; done) | (simp; omega))) hb4
    have u3 := (hc4.cell (p := ⟨w.heap.size + 2, 0, none⟩) l2).trans y3
    have u4 := (hc4.cell (p := ⟨w.heap.size + 2, 1, none⟩) l2).trans y4
    have g3 := (hc4.frozen (p := ⟨w.heap.size + 2, 0, none⟩) l2).trans f3
    have g4 := (hc4.frozen (p := ⟨w.heap.size + 2, 1, none⟩) l2).trans f4
    have hcB := Lib.hid hc4
    clear y0 y1 y2 y3 y4 f3 f4 hc2 hc3 hc4 z2 hb2 hb3 hb4
    repeat (first | ((with_reducible refine wpD_p (fun K hK => ?_)); go_simp; refine hK _ ?_; clear hK K) | ((with_reducible refine wpD_q (fun K hK => ?_)); go_simp; (first | refine hK _ ?_ | (go_bits; refine hK _ ?_) | (go_bits; go_simp; refine hK _ ?_)); clear hK K))
    with_reducible refine wpD_b (fun K hK => ?_)
    go_simp
    refine hK _ _ ?_
    clear hK K
    repeat (first | ((with_reducible refine wpD_p (fun K hK => ?_)); go_simp; refine hK _ ?_; clear hK K) | ((with_reducible refine wpD_q (fun K hK => ?_)); go_simp; (first | refine hK _ ?_ | (go_bits; refine hK _ ?_) | (go_bits; go_simp; refine hK _ ?_)); clear hK K))
    with_reducible refine wpD_nil ?_
    go_wp2
    refine bodyPost_ret (v := .tuple #[.agg #[.int .i64 (fracN (2 * S) q : Nat), .int .i64 (fracD (2 * S) q : Nat)], .int .i64 0]) (by simp only [results, Try.results47]; go_simp) rfl ?_
    exact FracRes.of hrH.out (((hB1.trans (hcB.out.mono hB1.size)).setCell (p := ⟨w.heap.size + 2, 0, none⟩) (by show _ ≤ w.heap.size + 2; omega) _).setCell (p := ⟨w.heap.size + 2, 1, none⟩) (by show _ ≤ w.heap.size + 2; omega) _)
  · have hcc1 : (cc != 0) = true := by simpa using h0
    have hrH := Lib.hid (show (0, 0, cc) = meanR gs ts xs by unfold meanR; rw [hql, hcc, if_pos (by simpa using h0)])
    clear hcc h0
    go_enter Try.func47, Try.ntmps47
    go_wp2_with fail
    refine (tiledCode_any _ _ _ _ _ _ _ _ _ gs ts xs _ (hH.out.below (by repeat (first | with_reducible exact bl_refl _ | with_reducible assumption | with_reducible refine bl_al ?_ _ | with_reducible refine bl_dr ?_ | with_reducible refine bl_tr ?_ (by assumption) | with_reducible refine bl_set ?_ ?_ _ | with_reducible exact Nat.le_refl _ | omega | (simp only [World.size_alloc, World.size_setCell, World.size_drew] at *; omega) | (dsimp only; omega) | (simp; done) | (simp; omega))))).mono ?_
    rw [hccH.out]
    rintro e w1 ⟨rfl, hb1⟩
    obtain ⟨chb1, fhb1, shb1, thb1⟩ := bcell hb1
    have bz := shb1 (w.heap.size + 2) (by simp)
    go_wp2
    refine bodyPost_ret (v := .tuple #[.agg #[.int .i64 ((0 : Nat) : Int), .int .i64 ((0 : Nat) : Int)], .int .i64 cc]) (by simp only [results, Try.results47]; go_simp) rfl ?_
    exact FracRes.of hrH.out (by repeat (first | with_reducible exact bl_refl _ | with_reducible assumption | with_reducible refine bl_al ?_ _ | with_reducible refine bl_dr ?_ | with_reducible refine bl_tr ?_ (by assumption) | with_reducible refine bl_set ?_ ?_ _ | with_reducible exact Nat.le_refl _ | omega | (simp only [World.size_alloc, World.size_setCell, World.size_drew] at *; omega) | (dsimp only; omega) | (simp; done) | (simp; omega)))
end Go.Proofs.Ytfabgnnpgepcoaa
