/- Walk: the reference's join of two assemblies of which the second stands free. -/
import Derived.Test.YthieodccakphiaaGreatV1
import Derived.Test.YthieodccakphiaaGreatOrdApp
import Derived.Test.YthieodccakphiaaGreatKP
namespace Go.Proofs.YthieodccakphiaaGreat
open Go.RowKit Go.Shelf
set_option linter.unusedSimpArgs false
set_option linter.unusedVariables false
attribute [local go_sem] BelowBy.cell BelowBy.cell_drew stillUpon givesUpon BelowBy.cell_drew2 BelowBy.cell_drew3

theorem mg_left {L xs ms Z : List Pl} {i k : Nat} {a : Pl} (hZ : L ++ List.merge (xs.drop i) (ms.drop k) lePl = Z) (ha : xs[i]? = some a) (hb : ∀ b, ms[k]? = some b → ltPl a b = true) :
    (L ++ [a]) ++ List.merge (xs.drop (i + 1)) (ms.drop k) lePl = Z := by
  obtain ⟨hi, rfl⟩ := List.getElem?_eq_some_iff.1 ha
  rw [← hZ, List.append_assoc, List.drop_eq_getElem_cons hi]
  congr 1
  by_cases hk : k < ms.length
  · rw [List.drop_eq_getElem_cons hk, List.merge, if_pos]
    · rfl
    · have := hb _ (List.getElem?_eq_getElem hk)
      rw [ltPl_iff] at this
      rw [lePl_iff]; omega
  · rw [show ms.drop k = [] from List.drop_eq_nil_of_le (by omega)]
    simp
theorem mg_right {L xs ms Z : List Pl} {i k : Nat} {b : Pl} (hZ : L ++ List.merge (xs.drop i) (ms.drop k) lePl = Z) (hb : ms[k]? = some b) (ha : ∀ a, xs[i]? = some a → ltPl b a = true) :
    (L ++ [b]) ++ List.merge (xs.drop i) (ms.drop (k + 1)) lePl = Z := by
  obtain ⟨hk, rfl⟩ := List.getElem?_eq_some_iff.1 hb
  rw [← hZ, List.append_assoc, List.drop_eq_getElem_cons hk]
  congr 1
  by_cases hi : i < xs.length
  · rw [List.drop_eq_getElem_cons hi, List.merge, if_neg]
    · rfl
    · have := ha _ (List.getElem?_eq_getElem hi)
      rw [ltPl_iff] at this
      rw [lePl_iff]; omega
  · rw [show xs.drop i = [] from List.drop_eq_nil_of_le (by omega)]
    simp
theorem ownsRow_baseV {w : World} {base base' : Nat} {e : TypeId} {size : Nat} {v : Value} {n : Nat} {xs : List Value} (h : w.ownsRow base e size v n xs) (hb : base' ≤ base) : w.ownsRow base' e size v n xs :=
  ⟨h.1, h.2.imp id (fun ⟨g, cap, cur, h1, h2, h3⟩ => ⟨g, cap, cur, h1, Nat.le_trans hb h2, h3⟩)⟩
def JoinS (w : World) (Z : List Pl) (e : Ending) (w' : World) : Prop :=
  ∃ B c', e = .returned (.tuple #[.agg #[.slice B Z.length c'], .bool true]) ∧ w'.ownsRow w.heap.size 108 3 (.slice B Z.length c') Z.length (plCells Z) ∧ Below w.heap.size w w'
set_option maxRecDepth 100000 in
set_option maxHeartbeats 8000000 in
theorem l03Join_any {oa ob : Nat} (pa pb : Nat) (gs : List Gl) (ts : List Ti) (xs ms : List Pl) (w : World) (ha : AsmAt w pa oa xs) (hb : AsmAt w pb ob ms) (h2 : Two gs ts xs ms) (hml : ms.length ≤ 500) :
    Calls Tryz.prog 53 #[.pointer (some ⟨pa, oa, none⟩), .pointer (some ⟨pb, ob, none⟩)] w (JoinS w (sortPl (xs ++ ms))) := by
  obtain ⟨i2, hi2, hz02, hz12, hz22⟩ := info_parts infoPl
  obtain ⟨hlta, ⟨A, n, ca, ha1, ha2⟩⟩ := ha
  obtain ⟨hltb, ⟨C, m, cb, hb1, hb2⟩⟩ := hb
  have hln := ha2.len
  have hlm := hb2.len
  have hn5 := h2.V.len
  rw [hln] at hn5
  rw [hlm] at hml
  have hM := Lib.hid h2.merge
  have hAp := Lib.hid (fun (i k : Nat) (a b : Pl) (hxa : xs[i]? = some a) (hmb : ms[k]? = some b) => free_apart h2.V hmb (h2.fr k (lt_of_get hmb)) a (List.mem_of_getElem? hxa))
  have haH := Lib.hid ha2
  have hbH := Lib.hid hb2
  have ha1H := Lib.hid ha1
  have hb1H := Lib.hid hb1
  clear h2 ha2 hb2 ha1 hb1
  obtain ⟨Z, hZ⟩ : ∃ Z, sortPl (xs ++ ms) = Z := ⟨_, rfl⟩
  rw [hZ] at hM ⊢
  clear hZ
  go_enter Tryz.func53, Tryz.ntmps53
  go_wp2
  go_loopg [7, 8] (n + m) (fun r x y wr => ∃ (i k : Nat) (L : List Pl) (A3 : Option Addr) (c3 : Nat), i + k + r = n + m ∧ i ≤ n ∧ k ≤ m ∧ x = .int .i64 (i : Int) ∧ y = .int .i64 (k : Int) ∧ Hid (L ++ List.merge (xs.drop i) (ms.drop k) lePl = Z) ∧ Hid (L.length = i + k) ∧ Hid (wr.ownsRow (w.heap.size + 2) 108 3 (.slice A3 (i + k) c3) (i + k) (plCells L)) ∧ Hid (Below w.heap.size w wr) ∧ w.heap.size + 1 < wr.heap.size ∧ wr.cell? ⟨w.heap.size, 0, none⟩ = some (.slice none 0 0) ∧ wr.frozen? ⟨w.heap.size, 0, none⟩ = false ∧ wr.cell? ⟨w.heap.size + 1, 0, none⟩ = some (.slice A3 (i + k) c3) ∧ wr.frozen? ⟨w.heap.size + 1, 0, none⟩ = false)
  case atStart => exact ⟨0, 0, [], none, 0, by omega, by omega, by omega, rfl, rfl, Lib.hid (by simpa using hM.out), Lib.hid rfl, Lib.hid (World.ownsRow_nil _ _ _ _), Lib.hid (by exact bel_), by simp, by go_simp, by go_simp, by go_simp, by go_simp⟩
  case round =>
    obtain ⟨i, k, L, A3, c3, hr, hin, hkm, rfl, rfl, hmg, hLl, hO, hbw, hsz, r0, rf, d0, df⟩ := hrel
    have hsw := hbw.out.size
    have ga : wr.cell? ⟨pa, oa, none⟩ = some (.slice A n ca) := (hbw.out.cell (p := ⟨pa, oa, none⟩) hlta).trans ha1H.out
    have gb : wr.cell? ⟨pb, ob, none⟩ = some (.slice C m cb) := (hbw.out.cell (p := ⟨pb, ob, none⟩) hltb).trans hb1H.out
    have la : pa < wr.heap.size := by omega
    have lb : pb < wr.heap.size := by omega
    have l0 : w.heap.size < wr.heap.size := by omega
    by_cases hin2 : i < n
    · obtain ⟨a, hxa⟩ : ∃ a, xs[i]? = some a := ⟨_, List.getElem?_eq_getElem (by omega)⟩
      obtain ⟨bA, oA, rfl, hbA, hcA⟩ := (haH.out.below RPl.stable hbw.out).ptr (by omega)
      obtain ⟨a0, a1, a2⟩ := hcA i a hxa
      have hxaH := Lib.hid hxa
      clear hcA hxa
      have e2 : ((i : Int) == (n : Int)) = false := by simp; omega
      by_cases hkm2 : k < m
      · obtain ⟨b, hmb⟩ : ∃ b, ms[k]? = some b := ⟨_, List.getElem?_eq_getElem (by omega)⟩
        obtain ⟨bB, oB, rfl, hbB, hcB⟩ := (hbH.out.below RPl.stable hbw.out).ptr (by omega)
        obtain ⟨b0, b1, b2⟩ := hcB k b hmb
        have hmbH := Lib.hid hmb
        clear hcB hmb
        have e1 : ((k : Int) == (m : Int)) = false := by simp; omega
        cases hlt : lessPt a.x a.y b.x b.y
        · have hgt : lessPt b.x b.y a.x a.y = true := by
            have h3 := hAp.out i k a b hxaH.out hmbH.out
            have h4 : ¬ (a.y < b.y ∨ (a.y = b.y ∧ a.x < b.x)) := by rw [← lessPt_iff, hlt]; decide
            unfold apart at h3
            rw [lessPt_iff]; omega
          have hnx := Lib.hid (mg_right hmg.out hmbH.out (fun a2 h2 => by rw [hxaH.out] at h2; obtain rfl := Option.some.inj h2; exact hgt))
          have hltH := Lib.hid hlt
          have hgtH := Lib.hid hgt
          clear hlt hgt
          go_wp2
          refine wp_region_ord [(0, .q), (1, .q), (2, .q), (3, .q), (4, .q), (5, .q), (6, .q), (7, .q), (8, .q), (9, .q), (10, .q), (11, .q), (12, .q), (13, .q), (14, .q), (15, .q), (16, .q), (17, .q), (18, .q), (19, .q), (20, .q), (21, .q), (22, .q), (23, .q), (24, .q), (25, .q), (26, .q), (27, .q), (28, .q), (29, .q), (30, .q), (31, .q), (32, .g), (33, .q), (34, .q), (35, .q)] (by kernel_rfl) (by kernel_rfl) ?_
          simp only [pick, List.filterMap_cons, List.filterMap_nil, List.getElem?_toArray, List.getElem?_cons_zero, List.getElem?_cons_succ, Option.map_some]
          repeat (first
            | ((with_reducible refine wpD_p (fun K hK => ?_)); go_simp; refine hK _ ?_; clear hK K)
            | ((with_reducible refine wpD_q (fun K hK => ?_)); go_simp; (first | refine hK _ ?_ | (go_bits; refine hK _ ?_) | (go_bits; go_simp; refine hK _ ?_)); clear hK K)
            | ((with_reducible refine wpD_g (fun K hK => ?_)); go_simp; refine hK _ _ ?_; clear hK K)
            | ((with_reducible refine wpD_g (fun K hK => ?_)); go_simp; refine ⟨Grew.of_alloc _, hK _ _ ?_⟩; clear hK K)
            | ((with_reducible refine wpD_g (fun K hK => ?_)); go_simp; refine ⟨Below.refl _ _, hK _ _ ?_⟩; clear hK K)
            | ((with_reducible refine wpD_g (fun K hK => ?_)); go_simp; go_at_call 94; refine (sLessPoint_at hltH.out).mono ?_; rintro e w2 ⟨rfl, hbw2⟩; refine ⟨_, rfl, hbw2, hK _ _ ?_⟩; clear hK K; obtain ⟨chbw2, fhbw2, shbw2, thbw2⟩ := bcell hbw2))
          with_reducible refine wpD_nil ?_
          have hBw2 : Below wr.heap.size wr w2 := by exact bel_
          clear hbw2 chbw2 fhbw2 shbw2 thbw2
          replace a0 := (hBw2.cell (p := ⟨bA, oA + i * 3, none⟩) hbA).trans a0
          replace a1 := (hBw2.cell (p := ⟨bA, oA + i * 3 + 1, none⟩) hbA).trans a1
          replace a2 := (hBw2.cell (p := ⟨bA, oA + i * 3 + 2, none⟩) hbA).trans a2
          replace hbA := Nat.lt_of_lt_of_le hbA hBw2.size
          replace b0 := (hBw2.cell (p := ⟨bB, oB + k * 3, none⟩) hbB).trans b0
          replace b1 := (hBw2.cell (p := ⟨bB, oB + k * 3 + 1, none⟩) hbB).trans b1
          replace b2 := (hBw2.cell (p := ⟨bB, oB + k * 3 + 2, none⟩) hbB).trans b2
          replace hbB := Nat.lt_of_lt_of_le hbB hBw2.size
          replace d0 := (hBw2.cell (p := ⟨w.heap.size + 1, 0, none⟩) hsz).trans d0
          replace df := (hBw2.frozen (p := ⟨w.heap.size + 1, 0, none⟩) hsz).trans df
          replace r0 := (hBw2.cell (p := ⟨w.heap.size, 0, none⟩) l0).trans r0
          replace rf := (hBw2.frozen (p := ⟨w.heap.size, 0, none⟩) l0).trans rf
          replace ga := (hBw2.cell (p := ⟨pa, oa, none⟩) la).trans ga
          replace gb := (hBw2.cell (p := ⟨pb, ob, none⟩) lb).trans gb
          replace hO := Lib.hid (ownsRow_below hO.out hBw2)
          replace hbw := Lib.hid (hbw.out.trans (Below.mono hBw2 hsw))
          replace hsz := Nat.lt_of_lt_of_le hsz hBw2.size
          replace la := Nat.lt_of_lt_of_le la hBw2.size
          replace lb := Nat.lt_of_lt_of_le lb hBw2.size
          replace l0 := Nat.lt_of_lt_of_le l0 hBw2.size
          replace hsw := Nat.le_trans hsw hBw2.size
          clear hBw2
          go_wp2
          refine wp_region_ord [(0, .q), (1, .q), (2, .q), (3, .q), (4, .q), (5, .q), (6, .q), (7, .q), (8, .q), (9, .q), (10, .q), (11, .q), (12, .q), (13, .q), (14, .q), (15, .q), (16, .q), (17, .q), (18, .q), (19, .q), (20, .q), (21, .q), (22, .q), (23, .q), (24, .g), (25, .q), (26, .q)] (by kernel_rfl) (by kernel_rfl) ?_
          simp only [pick, List.filterMap_cons, List.filterMap_nil, List.getElem?_toArray, List.getElem?_cons_zero, List.getElem?_cons_succ, Option.map_some]
          repeat (first
            | ((with_reducible refine wpD_p (fun K hK => ?_)); go_simp; refine hK _ ?_; clear hK K)
            | ((with_reducible refine wpD_q (fun K hK => ?_)); go_simp; (first | refine hK _ ?_ | (go_bits; refine hK _ ?_) | (go_bits; go_simp; refine hK _ ?_)); clear hK K)
            | ((with_reducible refine wpD_g (fun K hK => ?_)); go_simp; refine hK _ _ ?_; clear hK K)
            | ((with_reducible refine wpD_g (fun K hK => ?_)); go_simp; refine ⟨Grew.of_alloc _, hK _ _ ?_⟩; clear hK K)
            | ((with_reducible refine wpD_g (fun K hK => ?_)); go_simp; refine ⟨Below.refl _ _, hK _ _ ?_⟩; clear hK K)
            | ((with_reducible refine wpD_g (fun K hK => ?_)); go_simp; go_at_call 94; refine (sLessPoint_at hgtH.out).mono ?_; rintro e w3 ⟨rfl, hbw3⟩; refine ⟨_, rfl, hbw3, hK _ _ ?_⟩; clear hK K; obtain ⟨chbw3, fhbw3, shbw3, thbw3⟩ := bcell hbw3))
          with_reducible refine wpD_nil ?_
          have hBw3 : Below w2.heap.size w2 w3 := by exact bel_
          clear hbw3 chbw3 fhbw3 shbw3 thbw3
          replace a0 := (hBw3.cell (p := ⟨bA, oA + i * 3, none⟩) hbA).trans a0
          replace a1 := (hBw3.cell (p := ⟨bA, oA + i * 3 + 1, none⟩) hbA).trans a1
          replace a2 := (hBw3.cell (p := ⟨bA, oA + i * 3 + 2, none⟩) hbA).trans a2
          replace hbA := Nat.lt_of_lt_of_le hbA hBw3.size
          replace b0 := (hBw3.cell (p := ⟨bB, oB + k * 3, none⟩) hbB).trans b0
          replace b1 := (hBw3.cell (p := ⟨bB, oB + k * 3 + 1, none⟩) hbB).trans b1
          replace b2 := (hBw3.cell (p := ⟨bB, oB + k * 3 + 2, none⟩) hbB).trans b2
          replace hbB := Nat.lt_of_lt_of_le hbB hBw3.size
          replace d0 := (hBw3.cell (p := ⟨w.heap.size + 1, 0, none⟩) hsz).trans d0
          replace df := (hBw3.frozen (p := ⟨w.heap.size + 1, 0, none⟩) hsz).trans df
          replace r0 := (hBw3.cell (p := ⟨w.heap.size, 0, none⟩) l0).trans r0
          replace rf := (hBw3.frozen (p := ⟨w.heap.size, 0, none⟩) l0).trans rf
          replace ga := (hBw3.cell (p := ⟨pa, oa, none⟩) la).trans ga
          replace gb := (hBw3.cell (p := ⟨pb, ob, none⟩) lb).trans gb
          replace hO := Lib.hid (ownsRow_below hO.out hBw3)
          replace hbw := Lib.hid (hbw.out.trans (Below.mono hBw3 hsw))
          replace hsz := Nat.lt_of_lt_of_le hsz hBw3.size
          replace la := Nat.lt_of_lt_of_le la hBw3.size
          replace lb := Nat.lt_of_lt_of_le lb hBw3.size
          replace l0 := Nat.lt_of_lt_of_le l0 hBw3.size
          replace hsw := Nat.le_trans hsw hBw3.size
          clear hBw3
          go_wp2
          refine wp_region_ord [(0, .q), (1, .q), (2, .q), (3, .q), (4, .q), (5, .q), (6, .q), (7, .q), (8, .q), (9, .g), (10, .b), (11, .q), (12, .b)] (by kernel_rfl) (by kernel_rfl) ?_
          simp only [pick, List.filterMap_cons, List.filterMap_nil, List.getElem?_toArray, List.getElem?_cons_zero, List.getElem?_cons_succ, Option.map_some]
          repeat (first
            | ((with_reducible refine wpD_p (fun K hK => ?_)); go_simp; refine hK _ ?_; clear hK K)
            | ((with_reducible refine wpD_q (fun K hK => ?_)); go_simp; (first | refine hK _ ?_ | (go_bits; refine hK _ ?_) | (go_bits; go_simp; refine hK _ ?_)); clear hK K)
            | ((with_reducible refine wpD_g (fun K hK => ?_)); go_simp; refine hK _ _ ?_; clear hK K)
            | ((with_reducible refine wpD_g (fun K hK => ?_)); go_simp; refine ⟨Grew.of_alloc _, hK _ _ ?_⟩; clear hK K))
          refine wpD_append rfl _ _ 38 rfl (w.heap.size + 2) 108 i2 (.agg #[.int .i64 0, .int .i64 0, .int .i64 0]) 3 24 Tryz.underlying38 hi2 hz02 hz12 hz22 rfl (by decide) (.slice A3 (i + k) c3) (i + k) (plCells L) (by go_simp) (ownsRow_below hO.out (by exact bel_)) ⟨w3.heap.size, 0, none⟩ 1 1 [.int .i64 b.x, .int .i64 b.y, .int .i64 b.t] (by go_simp) rfl ?hnews (fun x hx => by simp at hx; rcases hx with rfl | rfl | rfl <;> rfl) (by unfold maxLen; omega) (by omega) (by simp; omega) ?_
          case hnews =>
            have := cell_three_new w3 (.int .i64 b.x) (.int .i64 b.y) (.int .i64 b.t) 108
            simpa using this
          intro v5 w5 hown5 hgrow5
          obtain ⟨A5, c5, rfl⟩ := ownsRow_form hown5
          have hT : Below w3.heap.size w3 (w3.alloc (Obj.cells #[.int .i64 b.x, .int .i64 b.y, .int .i64 b.t] 108)).drew := bl_dr (bl_al (bl_refl _) _)
          have hbX : Below (w.heap.size + 2) w3 w5 := (hT.mono (by omega)).grown hgrow5 (by simp; omega) (fun g e => (hO.out.lt g e).1)
          have m0 := (hbX.cell (p := ⟨w.heap.size, 0, none⟩) (by simp)).trans r0
          have m1 := (hbX.frozen (p := ⟨w.heap.size, 0, none⟩) (by simp)).trans rf
          have m2 := (hbX.cell (p := ⟨w.heap.size + 1, 0, none⟩) (by simp)).trans d0
          have mf := (hbX.frozen (p := ⟨w.heap.size + 1, 0, none⟩) (by simp)).trans df
          have l5 : w.heap.size + 1 < w5.heap.size := by have := hbX.size; omega
          have l50 : w.heap.size < w5.heap.size := by omega
          have hown5H := Lib.hid hown5
          have hbXH := Lib.hid (hbw.out.trans (hbX.mono (by omega)))
          clear hown5 hgrow5 hbX hT r0 rf d0 df
          repeat (first | ((with_reducible refine wpD_p (fun K hK => ?_)); go_simp; refine hK _ ?_; clear hK K) | ((with_reducible refine wpD_q (fun K hK => ?_)); go_simp; (first | refine hK _ ?_ | (go_bits; refine hK _ ?_) | (go_bits; go_simp; refine hK _ ?_)); clear hK K))
          with_reducible refine wpD_b (fun K hK => ?_)
          go_simp
          refine hK _ _ ?_
          clear hK K
          with_reducible refine wpD_nil ?_
          go_wp2
          go_roundg (n + m - (i + k + 1))
          case measure => omega
          case rel =>
            refine ⟨i, k + 1, L ++ [b], A5, c5, by omega, by omega, by omega, by go_num, by go_num, hnx, Lib.hid (by rw [List.length_append, hLl.out]; simp; omega), Lib.hid ?_, Lib.hid (hbXH.out.setCell (p := ⟨w.heap.size + 1, 0, none⟩) (by simp) _), by simp; omega, by go_simp, by go_simp, ?_, by go_simp⟩
            · rw [show i + (k + 1) = i + k + 1 by omega, plCells_snoc]
              exact ownsRow_setCell_below hown5H.out (by simp) _
            · rw [show i + (k + 1) = i + k + 1 by omega]; go_simp
        · have hnx := Lib.hid (mg_left hmg.out hxaH.out (fun b2 h2 => by rw [hmbH.out] at h2; obtain rfl := Option.some.inj h2; exact hlt))
          have hltH := Lib.hid hlt
          clear hlt
          go_wp2
          refine wp_region_ord [(0, .q), (1, .q), (2, .q), (3, .q), (4, .q), (5, .q), (6, .q), (7, .q), (8, .q), (9, .q), (10, .q), (11, .q), (12, .q), (13, .q), (14, .q), (15, .q), (16, .q), (17, .q), (18, .q), (19, .q), (20, .q), (21, .q), (22, .q), (23, .q), (24, .q), (25, .q), (26, .q), (27, .q), (28, .q), (29, .q), (30, .q), (31, .q), (32, .g), (33, .q), (34, .q), (35, .q)] (by kernel_rfl) (by kernel_rfl) ?_
          simp only [pick, List.filterMap_cons, List.filterMap_nil, List.getElem?_toArray, List.getElem?_cons_zero, List.getElem?_cons_succ, Option.map_some]
          repeat (first
            | ((with_reducible refine wpD_p (fun K hK => ?_)); go_simp; refine hK _ ?_; clear hK K)
            | ((with_reducible refine wpD_q (fun K hK => ?_)); go_simp; (first | refine hK _ ?_ | (go_bits; refine hK _ ?_) | (go_bits; go_simp; refine hK _ ?_)); clear hK K)
            | ((with_reducible refine wpD_g (fun K hK => ?_)); go_simp; refine hK _ _ ?_; clear hK K)
            | ((with_reducible refine wpD_g (fun K hK => ?_)); go_simp; refine ⟨Grew.of_alloc _, hK _ _ ?_⟩; clear hK K)
            | ((with_reducible refine wpD_g (fun K hK => ?_)); go_simp; refine ⟨Below.refl _ _, hK _ _ ?_⟩; clear hK K)
            | ((with_reducible refine wpD_g (fun K hK => ?_)); go_simp; go_at_call 94; refine (sLessPoint_at hltH.out).mono ?_; rintro e w2 ⟨rfl, hbw2⟩; refine ⟨_, rfl, hbw2, hK _ _ ?_⟩; clear hK K; obtain ⟨chbw2, fhbw2, shbw2, thbw2⟩ := bcell hbw2))
          with_reducible refine wpD_nil ?_
          have hBw2 : Below wr.heap.size wr w2 := by exact bel_
          clear hbw2 chbw2 fhbw2 shbw2 thbw2
          replace a0 := (hBw2.cell (p := ⟨bA, oA + i * 3, none⟩) hbA).trans a0
          replace a1 := (hBw2.cell (p := ⟨bA, oA + i * 3 + 1, none⟩) hbA).trans a1
          replace a2 := (hBw2.cell (p := ⟨bA, oA + i * 3 + 2, none⟩) hbA).trans a2
          replace hbA := Nat.lt_of_lt_of_le hbA hBw2.size
          replace b0 := (hBw2.cell (p := ⟨bB, oB + k * 3, none⟩) hbB).trans b0
          replace b1 := (hBw2.cell (p := ⟨bB, oB + k * 3 + 1, none⟩) hbB).trans b1
          replace b2 := (hBw2.cell (p := ⟨bB, oB + k * 3 + 2, none⟩) hbB).trans b2
          replace hbB := Nat.lt_of_lt_of_le hbB hBw2.size
          replace d0 := (hBw2.cell (p := ⟨w.heap.size + 1, 0, none⟩) hsz).trans d0
          replace df := (hBw2.frozen (p := ⟨w.heap.size + 1, 0, none⟩) hsz).trans df
          replace r0 := (hBw2.cell (p := ⟨w.heap.size, 0, none⟩) l0).trans r0
          replace rf := (hBw2.frozen (p := ⟨w.heap.size, 0, none⟩) l0).trans rf
          replace ga := (hBw2.cell (p := ⟨pa, oa, none⟩) la).trans ga
          replace gb := (hBw2.cell (p := ⟨pb, ob, none⟩) lb).trans gb
          replace hO := Lib.hid (ownsRow_below hO.out hBw2)
          replace hbw := Lib.hid (hbw.out.trans (Below.mono hBw2 hsw))
          replace hsz := Nat.lt_of_lt_of_le hsz hBw2.size
          replace la := Nat.lt_of_lt_of_le la hBw2.size
          replace lb := Nat.lt_of_lt_of_le lb hBw2.size
          replace l0 := Nat.lt_of_lt_of_le l0 hBw2.size
          replace hsw := Nat.le_trans hsw hBw2.size
          clear hBw2
          go_wp2
          refine wp_region_ord [(0, .q), (1, .q), (2, .q), (3, .q), (4, .q), (5, .q), (6, .q), (7, .q), (8, .q), (9, .g), (10, .b), (11, .q), (12, .b)] (by kernel_rfl) (by kernel_rfl) ?_
          simp only [pick, List.filterMap_cons, List.filterMap_nil, List.getElem?_toArray, List.getElem?_cons_zero, List.getElem?_cons_succ, Option.map_some]
          repeat (first
            | ((with_reducible refine wpD_p (fun K hK => ?_)); go_simp; refine hK _ ?_; clear hK K)
            | ((with_reducible refine wpD_q (fun K hK => ?_)); go_simp; (first | refine hK _ ?_ | (go_bits; refine hK _ ?_) | (go_bits; go_simp; refine hK _ ?_)); clear hK K)
            | ((with_reducible refine wpD_g (fun K hK => ?_)); go_simp; refine hK _ _ ?_; clear hK K)
            | ((with_reducible refine wpD_g (fun K hK => ?_)); go_simp; refine ⟨Grew.of_alloc _, hK _ _ ?_⟩; clear hK K))
          refine wpD_append rfl _ _ 38 rfl (w.heap.size + 2) 108 i2 (.agg #[.int .i64 0, .int .i64 0, .int .i64 0]) 3 24 Tryz.underlying38 hi2 hz02 hz12 hz22 rfl (by decide) (.slice A3 (i + k) c3) (i + k) (plCells L) (by go_simp) (ownsRow_below hO.out (by exact bel_)) ⟨w2.heap.size, 0, none⟩ 1 1 [.int .i64 a.x, .int .i64 a.y, .int .i64 a.t] (by go_simp) rfl ?hnews (fun x hx => by simp at hx; rcases hx with rfl | rfl | rfl <;> rfl) (by unfold maxLen; omega) (by omega) (by simp; omega) ?_
          case hnews =>
            have := cell_three_new w2 (.int .i64 a.x) (.int .i64 a.y) (.int .i64 a.t) 108
            simpa using this
          intro v5 w5 hown5 hgrow5
          obtain ⟨A5, c5, rfl⟩ := ownsRow_form hown5
          have hT : Below w2.heap.size w2 (w2.alloc (Obj.cells #[.int .i64 a.x, .int .i64 a.y, .int .i64 a.t] 108)).drew := bl_dr (bl_al (bl_refl _) _)
          have hbX : Below (w.heap.size + 2) w2 w5 := (hT.mono (by omega)).grown hgrow5 (by simp; omega) (fun g e => (hO.out.lt g e).1)
          have m0 := (hbX.cell (p := ⟨w.heap.size, 0, none⟩) (by simp)).trans r0
          have m1 := (hbX.frozen (p := ⟨w.heap.size, 0, none⟩) (by simp)).trans rf
          have m2 := (hbX.cell (p := ⟨w.heap.size + 1, 0, none⟩) (by simp)).trans d0
          have mf := (hbX.frozen (p := ⟨w.heap.size + 1, 0, none⟩) (by simp)).trans df
          have l5 : w.heap.size + 1 < w5.heap.size := by have := hbX.size; omega
          have l50 : w.heap.size < w5.heap.size := by omega
          have hown5H := Lib.hid hown5
          have hbXH := Lib.hid (hbw.out.trans (hbX.mono (by omega)))
          clear hown5 hgrow5 hbX hT r0 rf d0 df
          repeat (first | ((with_reducible refine wpD_p (fun K hK => ?_)); go_simp; refine hK _ ?_; clear hK K) | ((with_reducible refine wpD_q (fun K hK => ?_)); go_simp; (first | refine hK _ ?_ | (go_bits; refine hK _ ?_) | (go_bits; go_simp; refine hK _ ?_)); clear hK K))
          with_reducible refine wpD_b (fun K hK => ?_)
          go_simp
          refine hK _ _ ?_
          clear hK K
          with_reducible refine wpD_nil ?_
          go_wp2
          go_roundg (n + m - (i + k + 1))
          case measure => omega
          case rel =>
            refine ⟨i + 1, k, L ++ [a], A5, c5, by omega, by omega, by omega, by go_num, by go_num, hnx, Lib.hid (by rw [List.length_append, hLl.out]; simp; omega), Lib.hid ?_, Lib.hid (hbXH.out.setCell (p := ⟨w.heap.size + 1, 0, none⟩) (by simp) _), by simp; omega, by go_simp, by go_simp, ?_, by go_simp⟩
            · rw [show (i + 1) + k = i + k + 1 by omega, plCells_snoc]
              exact ownsRow_setCell_below hown5H.out (by simp) _
            · rw [show (i + 1) + k = i + k + 1 by omega]; go_simp
      · obtain rfl : k = m := by omega
        have hnx := Lib.hid (mg_left hmg.out hxaH.out (fun b2 h2 => by have := lt_of_get h2; omega))
        go_wp2
        refine wp_region_ord [(0, .q), (1, .q), (2, .q), (3, .q), (4, .q), (5, .q), (6, .q), (7, .q), (8, .q), (9, .q), (10, .q), (11, .q), (12, .q), (13, .q), (14, .q), (15, .q), (16, .q), (17, .q), (18, .q), (19, .q), (20, .q), (21, .q), (22, .q), (23, .q), (24, .q), (25, .q), (26, .q), (27, .q), (28, .q), (29, .q), (30, .q), (31, .q), (32, .g), (33, .q), (34, .q), (35, .q)] (by kernel_rfl) (by kernel_rfl) ?_
        simp only [pick, List.filterMap_cons, List.filterMap_nil, List.getElem?_toArray, List.getElem?_cons_zero, List.getElem?_cons_succ, Option.map_some]
        repeat (first
          | ((with_reducible refine wpD_p (fun K hK => ?_)); go_simp; refine hK _ ?_; clear hK K)
          | ((with_reducible refine wpD_q (fun K hK => ?_)); go_simp; (first | refine hK _ ?_ | (go_bits; refine hK _ ?_) | (go_bits; go_simp; refine hK _ ?_)); clear hK K)
          | ((with_reducible refine wpD_g (fun K hK => ?_)); go_simp; refine hK _ _ ?_; clear hK K)
          | ((with_reducible refine wpD_g (fun K hK => ?_)); go_simp; refine ⟨Grew.of_alloc _, hK _ _ ?_⟩; clear hK K)
          | ((with_reducible refine wpD_g (fun K hK => ?_)); go_simp; refine ⟨Below.refl _ _, hK _ _ ?_⟩; clear hK K))
        with_reducible refine wpD_nil ?_
        have hBw2 : Below wr.heap.size wr wr.drew := bl_dr (bl_refl _)
        generalize wr.drew = w2 at hBw2 ⊢
        replace a0 := (hBw2.cell (p := ⟨bA, oA + i * 3, none⟩) hbA).trans a0
        replace a1 := (hBw2.cell (p := ⟨bA, oA + i * 3 + 1, none⟩) hbA).trans a1
        replace a2 := (hBw2.cell (p := ⟨bA, oA + i * 3 + 2, none⟩) hbA).trans a2
        replace hbA := Nat.lt_of_lt_of_le hbA hBw2.size
        replace d0 := (hBw2.cell (p := ⟨w.heap.size + 1, 0, none⟩) hsz).trans d0
        replace df := (hBw2.frozen (p := ⟨w.heap.size + 1, 0, none⟩) hsz).trans df
        replace r0 := (hBw2.cell (p := ⟨w.heap.size, 0, none⟩) l0).trans r0
        replace rf := (hBw2.frozen (p := ⟨w.heap.size, 0, none⟩) l0).trans rf
        replace ga := (hBw2.cell (p := ⟨pa, oa, none⟩) la).trans ga
        replace gb := (hBw2.cell (p := ⟨pb, ob, none⟩) lb).trans gb
        replace hO := Lib.hid (ownsRow_below hO.out hBw2)
        replace hbw := Lib.hid (hbw.out.trans (Below.mono hBw2 hsw))
        replace hsz := Nat.lt_of_lt_of_le hsz hBw2.size
        replace la := Nat.lt_of_lt_of_le la hBw2.size
        replace lb := Nat.lt_of_lt_of_le lb hBw2.size
        replace l0 := Nat.lt_of_lt_of_le l0 hBw2.size
        replace hsw := Nat.le_trans hsw hBw2.size
        clear hBw2
        go_wp2
        refine wp_region_ord [(0, .q), (1, .q), (2, .q), (3, .q), (4, .q), (5, .q), (6, .q), (7, .q), (8, .q), (9, .g), (10, .b), (11, .q), (12, .b)] (by kernel_rfl) (by kernel_rfl) ?_
        simp only [pick, List.filterMap_cons, List.filterMap_nil, List.getElem?_toArray, List.getElem?_cons_zero, List.getElem?_cons_succ, Option.map_some]
        repeat (first
          | ((with_reducible refine wpD_p (fun K hK => ?_)); go_simp; refine hK _ ?_; clear hK K)
          | ((with_reducible refine wpD_q (fun K hK => ?_)); go_simp; (first | refine hK _ ?_ | (go_bits; refine hK _ ?_) | (go_bits; go_simp; refine hK _ ?_)); clear hK K)
          | ((with_reducible refine wpD_g (fun K hK => ?_)); go_simp; refine hK _ _ ?_; clear hK K)
          | ((with_reducible refine wpD_g (fun K hK => ?_)); go_simp; refine ⟨Grew.of_alloc _, hK _ _ ?_⟩; clear hK K))
        refine wpD_append rfl _ _ 38 rfl (w.heap.size + 2) 108 i2 (.agg #[.int .i64 0, .int .i64 0, .int .i64 0]) 3 24 Tryz.underlying38 hi2 hz02 hz12 hz22 rfl (by decide) (.slice A3 (i + k) c3) (i + k) (plCells L) (by go_simp) (ownsRow_below hO.out (by exact bel_)) ⟨w2.heap.size, 0, none⟩ 1 1 [.int .i64 a.x, .int .i64 a.y, .int .i64 a.t] (by go_simp) rfl ?hnews (fun x hx => by simp at hx; rcases hx with rfl | rfl | rfl <;> rfl) (by unfold maxLen; omega) (by omega) (by simp; omega) ?_
        case hnews =>
          have := cell_three_new w2 (.int .i64 a.x) (.int .i64 a.y) (.int .i64 a.t) 108
          simpa using this
        intro v5 w5 hown5 hgrow5
        obtain ⟨A5, c5, rfl⟩ := ownsRow_form hown5
        have hT : Below w2.heap.size w2 (w2.alloc (Obj.cells #[.int .i64 a.x, .int .i64 a.y, .int .i64 a.t] 108)).drew := bl_dr (bl_al (bl_refl _) _)
        have hbX : Below (w.heap.size + 2) w2 w5 := (hT.mono (by omega)).grown hgrow5 (by simp; omega) (fun g e => (hO.out.lt g e).1)
        have m0 := (hbX.cell (p := ⟨w.heap.size, 0, none⟩) (by simp)).trans r0
        have m1 := (hbX.frozen (p := ⟨w.heap.size, 0, none⟩) (by simp)).trans rf
        have m2 := (hbX.cell (p := ⟨w.heap.size + 1, 0, none⟩) (by simp)).trans d0
        have mf := (hbX.frozen (p := ⟨w.heap.size + 1, 0, none⟩) (by simp)).trans df
        have l5 : w.heap.size + 1 < w5.heap.size := by have := hbX.size; omega
        have l50 : w.heap.size < w5.heap.size := by omega
        have hown5H := Lib.hid hown5
        have hbXH := Lib.hid (hbw.out.trans (hbX.mono (by omega)))
        clear hown5 hgrow5 hbX hT r0 rf d0 df
        repeat (first | ((with_reducible refine wpD_p (fun K hK => ?_)); go_simp; refine hK _ ?_; clear hK K) | ((with_reducible refine wpD_q (fun K hK => ?_)); go_simp; (first | refine hK _ ?_ | (go_bits; refine hK _ ?_) | (go_bits; go_simp; refine hK _ ?_)); clear hK K))
        with_reducible refine wpD_b (fun K hK => ?_)
        go_simp
        refine hK _ _ ?_
        clear hK K
        with_reducible refine wpD_nil ?_
        go_wp2
        go_roundg (n + k - (i + k + 1))
        case measure => omega
        case rel =>
          refine ⟨i + 1, k, L ++ [a], A5, c5, by omega, by omega, by omega, by go_num, by go_num, hnx, Lib.hid (by rw [List.length_append, hLl.out]; simp; omega), Lib.hid ?_, Lib.hid (hbXH.out.setCell (p := ⟨w.heap.size + 1, 0, none⟩) (by simp) _), by simp; omega, by go_simp, by go_simp, ?_, by go_simp⟩
          · rw [show (i + 1) + k = i + k + 1 by omega, plCells_snoc]
            exact ownsRow_setCell_below hown5H.out (by simp) _
          · rw [show (i + 1) + k = i + k + 1 by omega]; go_simp
    · obtain rfl : i = n := by omega
      by_cases hkm2 : k < m
      · obtain ⟨b, hmb⟩ : ∃ b, ms[k]? = some b := ⟨_, List.getElem?_eq_getElem (by omega)⟩
        obtain ⟨bB, oB, rfl, hbB, hcB⟩ := (hbH.out.below RPl.stable hbw.out).ptr (by omega)
        obtain ⟨b0, b1, b2⟩ := hcB k b hmb
        have hmbH := Lib.hid hmb
        clear hcB hmb
        have e1 : ((k : Int) == (m : Int)) = false := by simp; omega
        have hnx := Lib.hid (mg_right hmg.out hmbH.out (fun a2 h2 => by have := lt_of_get h2; omega))
        go_wp2
        refine wp_region_ord [(0, .q), (1, .q), (2, .q), (3, .q), (4, .q), (5, .q), (6, .q), (7, .q), (8, .q), (9, .q), (10, .q), (11, .q), (12, .q), (13, .q), (14, .q), (15, .q), (16, .q), (17, .q), (18, .q), (19, .q), (20, .q), (21, .q), (22, .q), (23, .q), (24, .q), (25, .q), (26, .q), (27, .q), (28, .q), (29, .q), (30, .q), (31, .q), (32, .g), (33, .q), (34, .q), (35, .q)] (by kernel_rfl) (by kernel_rfl) ?_
        simp only [pick, List.filterMap_cons, List.filterMap_nil, List.getElem?_toArray, List.getElem?_cons_zero, List.getElem?_cons_succ, Option.map_some]
        repeat (first
          | ((with_reducible refine wpD_p (fun K hK => ?_)); go_simp; refine hK _ ?_; clear hK K)
          | ((with_reducible refine wpD_q (fun K hK => ?_)); go_simp; (first | refine hK _ ?_ | (go_bits; refine hK _ ?_) | (go_bits; go_simp; refine hK _ ?_)); clear hK K)
          | ((with_reducible refine wpD_g (fun K hK => ?_)); go_simp; refine hK _ _ ?_; clear hK K)
          | ((with_reducible refine wpD_g (fun K hK => ?_)); go_simp; refine ⟨Grew.of_alloc _, hK _ _ ?_⟩; clear hK K)
          | ((with_reducible refine wpD_g (fun K hK => ?_)); go_simp; refine ⟨Below.refl _ _, hK _ _ ?_⟩; clear hK K))
        with_reducible refine wpD_nil ?_
        have hBw2 : Below wr.heap.size wr wr.drew := bl_dr (bl_refl _)
        generalize wr.drew = w2 at hBw2 ⊢
        replace b0 := (hBw2.cell (p := ⟨bB, oB + k * 3, none⟩) hbB).trans b0
        replace b1 := (hBw2.cell (p := ⟨bB, oB + k * 3 + 1, none⟩) hbB).trans b1
        replace b2 := (hBw2.cell (p := ⟨bB, oB + k * 3 + 2, none⟩) hbB).trans b2
        replace hbB := Nat.lt_of_lt_of_le hbB hBw2.size
        replace d0 := (hBw2.cell (p := ⟨w.heap.size + 1, 0, none⟩) hsz).trans d0
        replace df := (hBw2.frozen (p := ⟨w.heap.size + 1, 0, none⟩) hsz).trans df
        replace r0 := (hBw2.cell (p := ⟨w.heap.size, 0, none⟩) l0).trans r0
        replace rf := (hBw2.frozen (p := ⟨w.heap.size, 0, none⟩) l0).trans rf
        replace ga := (hBw2.cell (p := ⟨pa, oa, none⟩) la).trans ga
        replace gb := (hBw2.cell (p := ⟨pb, ob, none⟩) lb).trans gb
        replace hO := Lib.hid (ownsRow_below hO.out hBw2)
        replace hbw := Lib.hid (hbw.out.trans (Below.mono hBw2 hsw))
        replace hsz := Nat.lt_of_lt_of_le hsz hBw2.size
        replace la := Nat.lt_of_lt_of_le la hBw2.size
        replace lb := Nat.lt_of_lt_of_le lb hBw2.size
        replace l0 := Nat.lt_of_lt_of_le l0 hBw2.size
        replace hsw := Nat.le_trans hsw hBw2.size
        clear hBw2
        go_wp2
        refine wp_region_ord [(0, .q), (1, .q), (2, .q), (3, .q), (4, .q), (5, .q), (6, .q), (7, .q), (8, .q), (9, .q), (10, .q), (11, .q), (12, .q), (13, .q), (14, .q), (15, .q), (16, .q), (17, .q), (18, .q), (19, .q), (20, .q), (21, .q), (22, .q), (23, .q), (24, .g), (25, .q), (26, .q)] (by kernel_rfl) (by kernel_rfl) ?_
        simp only [pick, List.filterMap_cons, List.filterMap_nil, List.getElem?_toArray, List.getElem?_cons_zero, List.getElem?_cons_succ, Option.map_some]
        repeat (first
          | ((with_reducible refine wpD_p (fun K hK => ?_)); go_simp; refine hK _ ?_; clear hK K)
          | ((with_reducible refine wpD_q (fun K hK => ?_)); go_simp; (first | refine hK _ ?_ | (go_bits; refine hK _ ?_) | (go_bits; go_simp; refine hK _ ?_)); clear hK K)
          | ((with_reducible refine wpD_g (fun K hK => ?_)); go_simp; refine hK _ _ ?_; clear hK K)
          | ((with_reducible refine wpD_g (fun K hK => ?_)); go_simp; refine ⟨Grew.of_alloc _, hK _ _ ?_⟩; clear hK K)
          | ((with_reducible refine wpD_g (fun K hK => ?_)); go_simp; refine ⟨Below.refl _ _, hK _ _ ?_⟩; clear hK K))
        with_reducible refine wpD_nil ?_
        have hBw3 : Below w2.heap.size w2 w2.drew := bl_dr (bl_refl _)
        generalize w2.drew = w3 at hBw3 ⊢
        replace b0 := (hBw3.cell (p := ⟨bB, oB + k * 3, none⟩) hbB).trans b0
        replace b1 := (hBw3.cell (p := ⟨bB, oB + k * 3 + 1, none⟩) hbB).trans b1
        replace b2 := (hBw3.cell (p := ⟨bB, oB + k * 3 + 2, none⟩) hbB).trans b2
        replace hbB := Nat.lt_of_lt_of_le hbB hBw3.size
        replace d0 := (hBw3.cell (p := ⟨w.heap.size + 1, 0, none⟩) hsz).trans d0
        replace df := (hBw3.frozen (p := ⟨w.heap.size + 1, 0, none⟩) hsz).trans df
        replace r0 := (hBw3.cell (p := ⟨w.heap.size, 0, none⟩) l0).trans r0
        replace rf := (hBw3.frozen (p := ⟨w.heap.size, 0, none⟩) l0).trans rf
        replace ga := (hBw3.cell (p := ⟨pa, oa, none⟩) la).trans ga
        replace gb := (hBw3.cell (p := ⟨pb, ob, none⟩) lb).trans gb
        replace hO := Lib.hid (ownsRow_below hO.out hBw3)
        replace hbw := Lib.hid (hbw.out.trans (Below.mono hBw3 hsw))
        replace hsz := Nat.lt_of_lt_of_le hsz hBw3.size
        replace la := Nat.lt_of_lt_of_le la hBw3.size
        replace lb := Nat.lt_of_lt_of_le lb hBw3.size
        replace l0 := Nat.lt_of_lt_of_le l0 hBw3.size
        replace hsw := Nat.le_trans hsw hBw3.size
        clear hBw3
        go_wp2
        refine wp_region_ord [(0, .q), (1, .q), (2, .q), (3, .q), (4, .q), (5, .q), (6, .q), (7, .q), (8, .q), (9, .g), (10, .b), (11, .q), (12, .b)] (by kernel_rfl) (by kernel_rfl) ?_
        simp only [pick, List.filterMap_cons, List.filterMap_nil, List.getElem?_toArray, List.getElem?_cons_zero, List.getElem?_cons_succ, Option.map_some]
        repeat (first
          | ((with_reducible refine wpD_p (fun K hK => ?_)); go_simp; refine hK _ ?_; clear hK K)
          | ((with_reducible refine wpD_q (fun K hK => ?_)); go_simp; (first | refine hK _ ?_ | (go_bits; refine hK _ ?_) | (go_bits; go_simp; refine hK _ ?_)); clear hK K)
          | ((with_reducible refine wpD_g (fun K hK => ?_)); go_simp; refine hK _ _ ?_; clear hK K)
          | ((with_reducible refine wpD_g (fun K hK => ?_)); go_simp; refine ⟨Grew.of_alloc _, hK _ _ ?_⟩; clear hK K))
        refine wpD_append rfl _ _ 38 rfl (w.heap.size + 2) 108 i2 (.agg #[.int .i64 0, .int .i64 0, .int .i64 0]) 3 24 Tryz.underlying38 hi2 hz02 hz12 hz22 rfl (by decide) (.slice A3 (i + k) c3) (i + k) (plCells L) (by go_simp) (ownsRow_below hO.out (by exact bel_)) ⟨w3.heap.size, 0, none⟩ 1 1 [.int .i64 b.x, .int .i64 b.y, .int .i64 b.t] (by go_simp) rfl ?hnews (fun x hx => by simp at hx; rcases hx with rfl | rfl | rfl <;> rfl) (by unfold maxLen; omega) (by omega) (by simp; omega) ?_
        case hnews =>
          have := cell_three_new w3 (.int .i64 b.x) (.int .i64 b.y) (.int .i64 b.t) 108
          simpa using this
        intro v5 w5 hown5 hgrow5
        obtain ⟨A5, c5, rfl⟩ := ownsRow_form hown5
        have hT : Below w3.heap.size w3 (w3.alloc (Obj.cells #[.int .i64 b.x, .int .i64 b.y, .int .i64 b.t] 108)).drew := bl_dr (bl_al (bl_refl _) _)
        have hbX : Below (w.heap.size + 2) w3 w5 := (hT.mono (by omega)).grown hgrow5 (by simp; omega) (fun g e => (hO.out.lt g e).1)
        have m0 := (hbX.cell (p := ⟨w.heap.size, 0, none⟩) (by simp)).trans r0
        have m1 := (hbX.frozen (p := ⟨w.heap.size, 0, none⟩) (by simp)).trans rf
        have m2 := (hbX.cell (p := ⟨w.heap.size + 1, 0, none⟩) (by simp)).trans d0
        have mf := (hbX.frozen (p := ⟨w.heap.size + 1, 0, none⟩) (by simp)).trans df
        have l5 : w.heap.size + 1 < w5.heap.size := by have := hbX.size; omega
        have l50 : w.heap.size < w5.heap.size := by omega
        have hown5H := Lib.hid hown5
        have hbXH := Lib.hid (hbw.out.trans (hbX.mono (by omega)))
        clear hown5 hgrow5 hbX hT r0 rf d0 df
        repeat (first | ((with_reducible refine wpD_p (fun K hK => ?_)); go_simp; refine hK _ ?_; clear hK K) | ((with_reducible refine wpD_q (fun K hK => ?_)); go_simp; (first | refine hK _ ?_ | (go_bits; refine hK _ ?_) | (go_bits; go_simp; refine hK _ ?_)); clear hK K))
        with_reducible refine wpD_b (fun K hK => ?_)
        go_simp
        refine hK _ _ ?_
        clear hK K
        with_reducible refine wpD_nil ?_
        go_wp2
        go_roundg (i + m - (i + k + 1))
        case measure => omega
        case rel =>
          refine ⟨i, k + 1, L ++ [b], A5, c5, by omega, by omega, by omega, by go_num, by go_num, hnx, Lib.hid (by rw [List.length_append, hLl.out]; simp; omega), Lib.hid ?_, Lib.hid (hbXH.out.setCell (p := ⟨w.heap.size + 1, 0, none⟩) (by simp) _), by simp; omega, by go_simp, by go_simp, ?_, by go_simp⟩
          · rw [show i + (k + 1) = i + k + 1 by omega, plCells_snoc]
            exact ownsRow_setCell_below hown5H.out (by simp) _
          · rw [show i + (k + 1) = i + k + 1 by omega]; go_simp
      · obtain rfl : k = m := by omega
        have hLZ : L = Z := by
          have := hmg.out
          rw [List.drop_eq_nil_of_le (by omega), List.drop_eq_nil_of_le (by omega)] at this
          simpa using this
        have hZl : Z.length = i + k := by rw [← hLZ]; exact hLl.out
        rw [hLZ] at hO
        have hZlH := Lib.hid hZl
        clear hZl hLZ
        go_wp2
        refine bodyPost_ret (v := .tuple #[.agg #[.slice A3 (i + k) c3], .bool true]) (by simp only [results, Tryz.results53]; go_simp) rfl ?_
        refine ⟨A3, c3, by rw [hZlH.out], ?_, hbw.out.setCell (p := ⟨w.heap.size, 0, none⟩) (by simp) _⟩
        rw [hZlH.out]
        exact ownsRow_baseV (ownsRow_setCell_below hO.out (by simp) _) (by omega)
end Go.Proofs.YthieodccakphiaaGreat
