/- Walks: the reference on assemblies: valid, index, neighbors, bonds' strengths. -/
import Derived.Test.YtmhgjgclclnmaaaGreatP1
namespace Go.Proofs.YtmhgjgclclnmaaaGreat
open Go.RowKit
set_option linter.unusedSimpArgs false
set_option linter.unusedVariables false
attribute [local go_sem] BelowBy.cell BelowBy.cell_drew stillUpon givesUpon
set_option maxHeartbeats 1000000 in
theorem l03Ok_any {op oq : Nat} (p q : Nat) (gs : List Gl) (ts : List Ti) (xs : List Pl) (w : World) (hs : SetAt w p op gs ts) (ha : AsmAt w q oq xs) (hq : xs.length ≤ 1073741824) (htm : ts.length ≤ 140737488355328) :
    Calls Tryz.prog 128 #[.pointer (some ⟨p, op, none⟩), .pointer (some ⟨q, oq, none⟩)] w fun e w' => e = .returned (.bool (hasFormB xs && allB xs.length (okTile ts.length xs))) ∧ Below w.heap.size w w' := by
  
  cases hf : hasFormB xs
  · go_enter Tryz.func128, Tryz.ntmps128
    go_wp2_with (go_at_call 172; refine (l03Form_any _ xs _ (ha.below (by exact bel_)) hq).mono ?_; rintro e w1 ⟨rfl, hb1⟩; obtain ⟨chb1, fhb1, shb1, thb1⟩ := bcell hb1)
    go_ret
    exact ⟨rfl, by exact bel_⟩
  · have hx5 : xs.length ≤ 500 := by unfold hasFormB at hf; simp at hf; exact hf.2
    go_enter Tryz.func128, Tryz.ntmps128
    go_wp2_with (go_at_call 172; refine (l03Form_any _ xs _ (ha.below (by exact bel_)) hq).mono ?_; rintro e w1 ⟨rfl, hb1⟩; obtain ⟨chb1, fhb1, shb1, thb1⟩ := bcell hb1)
    obtain ⟨plt, ⟨A, n, c, g1, g2⟩⟩ := ha.below hb1
    have hla := g2.len
    go_loopg [5] n (fun r x wr => ∃ k : Nat, k + r = n ∧ x = .int .i64 k ∧ (∀ j, j < k → okTile ts.length xs j = true) ∧ w1 = wr)
    case atStart => exact ⟨0, by omega, rfl, fun j hj => by omega, rfl⟩
    case round =>
      obtain ⟨k, hk, rfl, hokX, rfl⟩ := hrel
      have hokT := Lib.hid hokX
      clear hokX
      by_cases hkn : k < n
      · obtain ⟨b, o, rfl, hb, hc⟩ := g2.ptr (by omega)
        obtain ⟨e, he⟩ := g2.get hkn
        obtain ⟨c0, c1, c2⟩ := hc k e he
        have HS : okTile ts.length xs k = inB e.t 0 (ts.length - 1) := by unfold okTile; rw [he]
        have HS := Lib.hid HS
        clear hc he
        cases hv : inB e.t 0 (ts.length - 1)
        · go_wp2_with (go_at_call 173; refine (l02Index_any _ gs ts _ _ (hs.below (by exact bel_)) (by omega)).mono ?_; rintro e _ ⟨rfl, rfl⟩)
          go_ret
          exact ⟨ret_bool (by rw [allB_false (k := k) (by omega) (by rw [HS.out, hv])]; rfl), by exact bel_⟩
        · go_wp2_with (go_at_call 173; refine (l02Index_any _ gs ts _ _ (hs.below (by exact bel_)) (by omega)).mono ?_; rintro e _ ⟨rfl, rfl⟩)
          go_roundg (n - (k + 1))
          case measure => omega
          case rel => exact ⟨k + 1, by omega, by go_num, fun j hj => (by rcases Nat.lt_succ_iff_lt_or_eq.1 hj with hj | rfl; exact hokT.out j hj; rw [HS.out, hv]), rfl⟩
      · obtain rfl : n = k := by omega
        go_wp2
        go_ret
        exact ⟨ret_bool (by rw [allB_true (fun j hj => hokT.out j (by omega))]; rfl), by exact bel_⟩
def codeB (b : Bool) : Int := if b then 0 else 1
set_option maxHeartbeats 1000000 in
theorem l06Asked_any {op oq : Nat} (p q : Nat) (gs : List Gl) (ts : List Ti) (xs : List Pl) (w : World) (hs : SetAt w p op gs ts) (ha : AsmAt w q oq xs) (hq : xs.length ≤ 1073741824) (hgm : gs.length ≤ 281474976710656) (htm : ts.length ≤ 140737488355328)
    (hgn : ∀ (k : Nat) (e : Gl), gs[k]? = some e → e.name.size ≤ 9223372036854775807) (htn : ∀ (k : Nat) (e : Ti), ts[k]? = some e → e.name.size ≤ 9223372036854775807 ∧ e.sides.length ≤ 9223372036854775807) :
    Calls Tryz.prog 77 #[.pointer (some ⟨p, op, none⟩), .pointer (some ⟨q, oq, none⟩)] w fun e w' => e = .returned (.int .i64 (codeB (validAsmB gs ts xs))) ∧ Below w.heap.size w w' := by
  
  have hgn := Lib.hid hgn
  have htn := Lib.hid htn
  cases hv : validSetB gs ts
  · go_enter Tryz.func77, Tryz.ntmps77
    go_wp2_with (go_at_call 127; refine (l02Ok_any _ gs ts _ (hs.below (by exact bel_)) hgm (by omega) hgn.out htn.out).mono ?_; rintro e w1 ⟨rfl, hb1⟩; obtain ⟨chb1, fhb1, shb1, thb1⟩ := bcell hb1)
    go_ret
    exact ⟨ret_int (by unfold validAsmB; rw [hv]; rfl), by exact bel_⟩
  · cases hf : (hasFormB xs && allB xs.length (okTile ts.length xs))
    all_goals
      go_enter Tryz.func77, Tryz.ntmps77
      go_wp2_with (first
        | (go_at_call 127; refine (l02Ok_any _ gs ts _ (hs.below (by exact bel_)) hgm (by omega) hgn.out htn.out).mono ?_; rintro e w1 ⟨rfl, hb1⟩; obtain ⟨chb1, fhb1, shb1, thb1⟩ := bcell hb1)
        | (go_at_call 128; refine (l03Ok_any _ _ gs ts xs _ (hs.below (by exact bel_)) (ha.below (by exact bel_)) hq htm).mono ?_; rw [hf]; rintro e w2 ⟨rfl, hb2⟩))
      go_ret
      exact ⟨ret_int (by unfold validAsmB; rw [hv, hf]; rfl), by exact bel_⟩
theorem l02Strength_any {op : Nat} (p : Nat) (gs : List Gl) (ts : List Ti) (g : Nat) (w : World) (hs : SetAt w p op gs ts) (hg : g ≤ gs.length) (hgm : gs.length ≤ 281474976710656) :
    Calls Tryz.prog 148 #[.pointer (some ⟨p, op, none⟩), .int .i64 g] w fun e w' => e = .returned (.int .i64 (strI gs g)) ∧ w = w' := by
  obtain ⟨hlt, ⟨A, n, c, h1, h2⟩, ⟨B, m, d, h3, h4⟩⟩ := id hs
  have hl := h2.len
  cases g with
  | zero =>
    go_enter Tryz.func148, Tryz.ntmps148
    go_wp2
    go_ret
    exact ⟨ret_int (by simp [strI]), rfl⟩
  | succ v =>
    have hvn : v < n := by omega
    obtain ⟨b, o, rfl, hb, hc⟩ := h2.ptr (by omega)
    obtain ⟨e, he⟩ := h2.get hvn
    obtain ⟨c0, c1⟩ := hc v e he
    have HE := Lib.hid (strI_eq he)
    clear hc he h2 h4
    go_enter Tryz.func148, Tryz.ntmps148
    go_wp2
    go_ret
    exact ⟨ret_int (by rw [Int.natCast_succ, HE.out]), rfl⟩
theorem sOppN_any (d : Nat) (w : World) (h : d < 4) :
    Calls Tryz.prog 147 #[.int .i64 d] w fun e w' => e = .returned (.int .i64 (oppN d)) ∧ w = w' := by
  rw [← oppI_nat]; exact Opposite_any _ _ ⟨by omega, by omega⟩
set_option maxHeartbeats 1000000 in
theorem l02Bond_any {op : Nat} (p : Nat) (gs : List Gl) (ts : List Ti) (xs : List Pl) (a d b : Nat) (w : World) (hs : SetAt w p op gs ts) (hV : Valid gs ts xs) (ha : a < ts.length) (hb : b < ts.length) (hd : d < 4) :
    Calls Tryz.prog 100 #[.pointer (some ⟨p, op, none⟩), .int .i64 a, .int .i64 d, .int .i64 b] w fun e w' => e = .returned (.int .i64 (bondI gs ts a d b)) ∧ Below w.heap.size w w' := by
  obtain ⟨hlt, ⟨A, n, c, h1, h2⟩, ⟨B, m, dd, h3, h4⟩⟩ := id hs
  have hl := h4.len
  have hlg := hV.gl
  have hlm := hV.tl
  have ham : a < m := by omega
  have hbm : b < m := by omega
  obtain ⟨bl, o, rfl, hbl, hc⟩ := h4.ptr (by omega)
  obtain ⟨ta, hta⟩ := h4.get ham
  obtain ⟨tb, htb⟩ := h4.get hbm
  have h4a := hV.four a ta hta
  have h4b := hV.four b tb htb
  obtain ⟨a0, SA, sn, sc, a1, hsa⟩ := hc a ta hta
  obtain ⟨b0, SB, sm, sd, b1, hsb⟩ := hc b tb htb
  have hsn := hsa.len
  have hsm := hsb.len
  have hsn : sn = 4 := by omega
  have hsm : sm = 4 := by omega
  subst hsn hsm
  obtain ⟨ba, oa, rfl, hba, hca⟩ := hsa.ptr (by omega)
  obtain ⟨bb, ob, rfl, hbb, hcb⟩ := hsb.ptr (by omega)
  have hod : oppN d < 4 := by unfold oppN; split <;> omega
  have hod' : ((oppN d : Nat) : Int) < 4 := by omega
  obtain ⟨va, hva⟩ := hsa.get hd
  obtain ⟨vb, hvb⟩ := hsb.get hod
  obtain ⟨ga, rfl, hga⟩ := hV.side a ta d va hta hva
  have ca := hca d _ hva
  have cb := hcb (oppN d) _ hvb
  simp only [RInt, Nat.mul_one] at ca cb
  have hsI := sideI_eq hta hva
  have hsJ := sideI_eq htb hvb
  have HB : bondI gs ts a d b = if (ga : Int) = vb then strI gs ga else 0 := by unfold bondI; rw [hsI, hsJ]
  have HB := Lib.hid HB
  clear hsI hsJ hca hcb hva hvb hta htb hc h2 h4 hsa hsb hl
  by_cases hv : (ga : Int) = vb
  · obtain rfl : vb = (ga : Int) := hv.symm
    clear hv
    go_enter Tryz.func100, Tryz.ntmps100
    go_wp2
    refine wp_region_ord [(0, .q), (1, .q), (2, .q), (3, .q), (4, .q), (5, .q), (6, .q), (7, .q), (8, .q), (9, .q), (10, .g), (11, .q), (12, .q), (13, .q)] (by kernel_rfl) (by kernel_rfl) ?_
    simp only [pick, List.filterMap_cons, List.filterMap_nil, List.getElem?_toArray, List.getElem?_cons_zero, List.getElem?_cons_succ, Option.map_some]
    repeat (first
      | ((with_reducible refine wpD_p (fun K hK => ?_)); go_simp; refine hK _ ?_; clear hK K)
      | ((with_reducible refine wpD_q (fun K hK => ?_)); go_simp; (first | refine hK _ ?_ | (go_bits; refine hK _ ?_) | (go_bits; go_simp; refine hK _ ?_)); clear hK K)
      | ((with_reducible refine wpD_g (fun K hK => ?_)); go_simp; refine hK _ _ ?_; clear hK K)
      | ((with_reducible refine wpD_g (fun K hK => ?_)); go_simp; refine ⟨Grew.of_alloc _, hK _ _ ?_⟩; clear hK K)
      | ((with_reducible refine wpD_g (fun K hK => ?_)); go_simp; go_at_call 147; refine (sOppN_any _ _ hd).mono ?_; rintro e _ ⟨rfl, rfl⟩; refine ⟨_, rfl, Below.refl _ _, hK _ _ ?_⟩; clear hK K))
    with_reducible refine wpD_nil ?_
    go_wp2_with (go_at_call 148; refine (l02Strength_any _ gs ts ga _ (hs.below (by exact bel_)) hga (by omega)).mono ?_; rintro e _ ⟨rfl, rfl⟩)
    go_ret
    exact ⟨ret_int (by rw [HB.out]; simp), by exact bel_⟩
  · have hv' : ((ga : Int) != vb) = true := by simpa using hv
    have hv := Lib.hid hv
    go_enter Tryz.func100, Tryz.ntmps100
    go_wp2
    refine wp_region_ord [(0, .q), (1, .q), (2, .q), (3, .q), (4, .q), (5, .q), (6, .q), (7, .q), (8, .q), (9, .q), (10, .g), (11, .q), (12, .q), (13, .q)] (by kernel_rfl) (by kernel_rfl) ?_
    simp only [pick, List.filterMap_cons, List.filterMap_nil, List.getElem?_toArray, List.getElem?_cons_zero, List.getElem?_cons_succ, Option.map_some]
    repeat (first
      | ((with_reducible refine wpD_p (fun K hK => ?_)); go_simp; refine hK _ ?_; clear hK K)
      | ((with_reducible refine wpD_q (fun K hK => ?_)); go_simp; (first | refine hK _ ?_ | (go_bits; refine hK _ ?_) | (go_bits; go_simp; refine hK _ ?_)); clear hK K)
      | ((with_reducible refine wpD_g (fun K hK => ?_)); go_simp; refine hK _ _ ?_; clear hK K)
      | ((with_reducible refine wpD_g (fun K hK => ?_)); go_simp; refine ⟨Grew.of_alloc _, hK _ _ ?_⟩; clear hK K)
      | ((with_reducible refine wpD_g (fun K hK => ?_)); go_simp; go_at_call 147; refine (sOppN_any _ _ hd).mono ?_; rintro e _ ⟨rfl, rfl⟩; refine ⟨_, rfl, Below.refl _ _, hK _ _ ?_⟩; clear hK K))
    with_reducible refine wpD_nil ?_
    go_wp2
    go_ret
    exact ⟨ret_int (by rw [HB.out, if_neg hv.out]), by exact bel_⟩
theorem sLessPoint_at {ax ay bx b_y : Int} {v : Bool} {w : World} (h : lessPt ax ay bx b_y = v) :
    Calls Tryz.prog 137 #[.agg #[.int .i64 ax, .int .i64 ay], .agg #[.int .i64 bx, .int .i64 b_y]] w fun e w' => e = .returned (.bool v) ∧ Below w.heap.size w w' := by
  rw [← h]; exact sLessPoint_any _ _ _ _ _
set_option maxHeartbeats 2000000 in
theorem l03Index_any {op : Nat} (p : Nat) (gs : List Gl) (ts : List Ti) (xs : List Pl) (x y : Int) (w : World) (ha : AsmAt w p op xs) (hV : Valid gs ts xs) :
    Calls Tryz.prog 88 #[.pointer (some ⟨p, op, none⟩), .agg #[.int .i64 x, .int .i64 y]] w fun e w' => e = .returned (.int .i64 (placeI xs x y)) ∧ Below w.heap.size w w' := by
  obtain ⟨hlt, ⟨A, n, c, h1, h2⟩⟩ := id ha
  have hl := h2.len
  have h5 := hV.len
  
  go_enter Tryz.func88, Tryz.ntmps88
  go_wp2
  go_loopg [5, 6] n (fun g lo hi wr => ∃ i j : Nat, j - i ≤ g ∧ i ≤ j ∧ j ≤ n ∧ lo = .int .i64 i ∧ hi = .int .i64 j ∧ (∀ (k : Nat) (d : Pl), k < i → xs[k]? = some d → lessPt d.x d.y x y = true) ∧ (∀ (k : Nat) (d : Pl), j ≤ k → xs[k]? = some d → lessPt d.x d.y x y = false) ∧
    Below w.heap.size w wr ∧ wr.cell? ⟨w.heap.size, 0, none⟩ = some (.int .i64 x) ∧ wr.cell? ⟨w.heap.size, 1, none⟩ = some (.int .i64 y) ∧ w.heap.size < wr.heap.size)
  case atStart => exact ⟨0, n, by omega, by omega, by omega, rfl, rfl, fun k d hk => by omega, fun k d hk hd => by have := lt_of_get hd; omega, by exact bel_, by go_simp, by go_simp, by simp⟩
  case round =>
    obtain ⟨i, j, hg, hij, hjn, rfl, rfl, hloX, hhiX, hbw, hx0, hx1, hsz⟩ := hrel
    have hlo := Lib.hid hloX
    have hhi := Lib.hid hhiX
    clear hloX hhiX
    obtain ⟨plt, ⟨A', n', c', g1, g2⟩⟩ := ha.below hbw
    obtain rfl : n' = n := by rw [← g2.len]; exact hl
    by_cases hlt2 : i < j
    · obtain ⟨b, o, rfl, hb, hc⟩ := g2.ptr (by omega)
      obtain ⟨m, hm⟩ : ∃ m : Nat, m = (i + j) / 2 := ⟨_, rfl⟩
      have hm1 : i ≤ m := by omega
      have hm2 : m < j := by omega
      have hmi : ((i : Int) + (j : Int)) / 2 = (m : Int) := by omega
      have hmn : m < n' := by omega
      clear hm
      obtain ⟨e, he⟩ := g2.get (k := m) (by omega)
      obtain ⟨c0, c1, c2⟩ := hc m e he
      have he := Lib.hid he
      clear hc g2
      cases hl4 : lessPt e.x e.y x y
      · go_wp2
        refine wp_region_ord [(0, .q), (1, .q), (2, .q), (3, .q), (4, .q), (5, .q), (6, .q), (7, .q), (8, .q), (9, .g)] (by kernel_rfl) (by kernel_rfl) ?_
        simp only [pick, List.filterMap_cons, List.filterMap_nil, List.getElem?_toArray, List.getElem?_cons_zero, List.getElem?_cons_succ, Option.map_some]
        repeat (first
          | ((with_reducible refine wpD_p (fun K hK => ?_)); go_simp; refine hK _ ?_; clear hK K)
          | ((with_reducible refine wpD_q (fun K hK => ?_)); go_simp; (first | refine hK _ ?_ | (go_bits; refine hK _ ?_) | (go_bits; go_simp; refine hK _ ?_)); clear hK K)
          | ((with_reducible refine wpD_g (fun K hK => ?_)); go_simp; refine hK _ _ ?_; clear hK K)
          | ((with_reducible refine wpD_g (fun K hK => ?_)); go_simp; refine ⟨Grew.of_alloc _, hK _ _ ?_⟩; clear hK K)
          | ((with_reducible refine wpD_g (fun K hK => ?_)); go_simp; go_at_call 137; refine (sLessPoint_at hl4).mono ?_; rintro e w1 ⟨rfl, hb1⟩; refine ⟨_, rfl, hb1, hK _ _ ?_⟩; clear hK K; obtain ⟨chb1, fhb1, shb1, thb1⟩ := bcell hb1))
        with_reducible refine wpD_nil ?_
        go_wp2
        go_roundg (m - i)
        case measure => omega
        case rel => exact ⟨i, m, by omega, hm1, by omega, rfl, rfl, hlo.out, fun k d hk hd => (by
            rcases Nat.lt_or_ge m k with hmk | hmk
            · cases hh : lessPt d.x d.y x y with
              | false => rfl
              | true => rw [← hl4]; exact (lessPt_trans (hV.sorted m k e d hmk he.out hd) hh).symm
            · obtain rfl : m = k := by omega
              rw [he.out] at hd
              obtain rfl := Option.some.inj hd
              exact hl4), by exact bel_, (hb1.cell (p := ⟨w.heap.size, 0, none⟩) hsz).trans hx0, (hb1.cell (p := ⟨w.heap.size, 1, none⟩) hsz).trans hx1, Nat.lt_of_lt_of_le hsz hb1.size⟩
      · go_wp2
        refine wp_region_ord [(0, .q), (1, .q), (2, .q), (3, .q), (4, .q), (5, .q), (6, .q), (7, .q), (8, .q), (9, .g)] (by kernel_rfl) (by kernel_rfl) ?_
        simp only [pick, List.filterMap_cons, List.filterMap_nil, List.getElem?_toArray, List.getElem?_cons_zero, List.getElem?_cons_succ, Option.map_some]
        repeat (first
          | ((with_reducible refine wpD_p (fun K hK => ?_)); go_simp; refine hK _ ?_; clear hK K)
          | ((with_reducible refine wpD_q (fun K hK => ?_)); go_simp; (first | refine hK _ ?_ | (go_bits; refine hK _ ?_) | (go_bits; go_simp; refine hK _ ?_)); clear hK K)
          | ((with_reducible refine wpD_g (fun K hK => ?_)); go_simp; refine hK _ _ ?_; clear hK K)
          | ((with_reducible refine wpD_g (fun K hK => ?_)); go_simp; refine ⟨Grew.of_alloc _, hK _ _ ?_⟩; clear hK K)
          | ((with_reducible refine wpD_g (fun K hK => ?_)); go_simp; go_at_call 137; refine (sLessPoint_at hl4).mono ?_; rintro e w1 ⟨rfl, hb1⟩; refine ⟨_, rfl, hb1, hK _ _ ?_⟩; clear hK K; obtain ⟨chb1, fhb1, shb1, thb1⟩ := bcell hb1))
        with_reducible refine wpD_nil ?_
        go_wp2
        go_roundg (j - (m + 1))
        case measure => omega
        case rel => exact ⟨m + 1, j, by omega, hm2, by omega, by go_num, rfl, fun k d hk hd => (by
            rcases Nat.lt_or_ge k m with hmk | hmk
            · exact lessPt_trans (hV.sorted k m d e hmk hd he.out) hl4
            · obtain rfl : m = k := by omega
              rw [he.out] at hd
              obtain rfl := Option.some.inj hd
              exact hl4), hhi.out, by exact bel_, (hb1.cell (p := ⟨w.heap.size, 0, none⟩) hsz).trans hx0, (hb1.cell (p := ⟨w.heap.size, 1, none⟩) hsz).trans hx1, Nat.lt_of_lt_of_le hsz hb1.size⟩
    · obtain rfl : i = j := by omega
      by_cases hin : i < n'
      · obtain ⟨b, o, rfl, hb, hc⟩ := g2.ptr (by omega)
        obtain ⟨e, he⟩ := g2.get (k := i) (by omega)
        obtain ⟨c0, c1, c2⟩ := hc i e he
        have he := Lib.hid he
        clear hc g2
        by_cases hxy : e.x = x ∧ e.y = y
        · obtain ⟨hx, hy⟩ := hxy
          have hP := Lib.hid (IsPlace.eq hV (place_found he.out hx hy))
          subst hx hy
          go_wp2
          refine wp_region_ord [(0, .q), (1, .q), (2, .q), (3, .q), (4, .q), (5, .q), (6, .q), (7, .q), (8, .q), (9, .q), (10, .q), (11, .q), (12, .q), (13, .q), (14, .q), (15, .q), (16, .q), (17, .q), (18, .q)] (by kernel_rfl) (by kernel_rfl) ?_
          simp only [pick, List.filterMap_cons, List.filterMap_nil, List.getElem?_toArray, List.getElem?_cons_zero, List.getElem?_cons_succ, Option.map_some]
          repeat (first
            | ((with_reducible refine wpD_p (fun K hK => ?_)); go_simp; refine hK _ ?_; clear hK K)
            | ((with_reducible refine wpD_q (fun K hK => ?_)); go_simp; (first | refine hK _ ?_ | (go_bits; refine hK _ ?_) | (go_bits; go_simp; refine hK _ ?_)); clear hK K)
            | ((with_reducible refine wpD_g (fun K hK => ?_)); go_simp; refine hK _ _ ?_; clear hK K)
            | ((with_reducible refine wpD_g (fun K hK => ?_)); go_simp; refine ⟨Grew.of_alloc _, hK _ _ ?_⟩; clear hK K))
          with_reducible refine wpD_nil ?_
          go_wp2
          go_ret
          exact ⟨ret_int hP.out, by exact bel_⟩
        · have hP := Lib.hid (IsPlace.eq hV (place_none hV hlo.out hhi.out (fun d hd => by rw [he.out] at hd; obtain rfl := Option.some.inj hd; exact hxy)))
          by_cases hx : e.x = x
          · have hy : ¬ e.y = y := fun h => hxy ⟨hx, h⟩
            subst hx
            have hy' : (e.y == y) = false := by simpa using hy
            go_wp2
            refine wp_region_ord [(0, .q), (1, .q), (2, .q), (3, .q), (4, .q), (5, .q), (6, .q), (7, .q), (8, .q), (9, .q), (10, .q), (11, .q), (12, .q), (13, .q), (14, .q), (15, .q), (16, .q), (17, .q), (18, .q)] (by kernel_rfl) (by kernel_rfl) ?_
            simp only [pick, List.filterMap_cons, List.filterMap_nil, List.getElem?_toArray, List.getElem?_cons_zero, List.getElem?_cons_succ, Option.map_some]
            repeat (first
              | ((with_reducible refine wpD_p (fun K hK => ?_)); go_simp; refine hK _ ?_; clear hK K)
              | ((with_reducible refine wpD_q (fun K hK => ?_)); go_simp; (first | refine hK _ ?_ | (go_bits; refine hK _ ?_) | (go_bits; go_simp; refine hK _ ?_)); clear hK K)
              | ((with_reducible refine wpD_g (fun K hK => ?_)); go_simp; refine hK _ _ ?_; clear hK K)
              | ((with_reducible refine wpD_g (fun K hK => ?_)); go_simp; refine ⟨Grew.of_alloc _, hK _ _ ?_⟩; clear hK K))
            with_reducible refine wpD_nil ?_
            go_wp2
            go_ret
            exact ⟨ret_int hP.out, by exact bel_⟩
          · have hx' : (e.x == x) = false := by simpa using hx
            go_wp2
            refine wp_region_ord [(0, .q), (1, .q), (2, .q), (3, .q), (4, .q), (5, .q), (6, .q), (7, .q), (8, .q), (9, .q), (10, .q), (11, .q), (12, .q), (13, .q), (14, .q), (15, .q), (16, .q), (17, .q), (18, .q)] (by kernel_rfl) (by kernel_rfl) ?_
            simp only [pick, List.filterMap_cons, List.filterMap_nil, List.getElem?_toArray, List.getElem?_cons_zero, List.getElem?_cons_succ, Option.map_some]
            repeat (first
              | ((with_reducible refine wpD_p (fun K hK => ?_)); go_simp; refine hK _ ?_; clear hK K)
              | ((with_reducible refine wpD_q (fun K hK => ?_)); go_simp; (first | refine hK _ ?_ | (go_bits; refine hK _ ?_) | (go_bits; go_simp; refine hK _ ?_)); clear hK K)
              | ((with_reducible refine wpD_g (fun K hK => ?_)); go_simp; refine hK _ _ ?_; clear hK K)
              | ((with_reducible refine wpD_g (fun K hK => ?_)); go_simp; refine ⟨Grew.of_alloc _, hK _ _ ?_⟩; clear hK K))
            with_reducible refine wpD_nil ?_
            go_wp2
            go_ret
            exact ⟨ret_int hP.out, by exact bel_⟩
      · have hP := Lib.hid (IsPlace.eq hV (place_none hV hlo.out hhi.out (fun d hd => by have := lt_of_get hd; omega)))
        clear g2
        go_wp2
        refine wp_region_ord [(0, .q), (1, .q), (2, .q), (3, .q), (4, .q), (5, .q), (6, .q), (7, .q), (8, .q), (9, .q), (10, .q), (11, .q), (12, .q), (13, .q), (14, .q), (15, .q), (16, .q), (17, .q), (18, .q)] (by kernel_rfl) (by kernel_rfl) ?_
        simp only [pick, List.filterMap_cons, List.filterMap_nil, List.getElem?_toArray, List.getElem?_cons_zero, List.getElem?_cons_succ, Option.map_some]
        repeat (first
          | ((with_reducible refine wpD_p (fun K hK => ?_)); go_simp; refine hK _ ?_; clear hK K)
          | ((with_reducible refine wpD_q (fun K hK => ?_)); go_simp; (first | refine hK _ ?_ | (go_bits; refine hK _ ?_) | (go_bits; go_simp; refine hK _ ?_)); clear hK K)
          | ((with_reducible refine wpD_g (fun K hK => ?_)); go_simp; refine hK _ _ ?_; clear hK K)
          | ((with_reducible refine wpD_g (fun K hK => ?_)); go_simp; refine ⟨Grew.of_alloc _, hK _ _ ?_⟩; clear hK K))
        with_reducible refine wpD_nil ?_
        go_wp2
        go_ret
        exact ⟨ret_int hP.out, by exact bel_⟩
set_option maxHeartbeats 1000000 in
theorem l06Neighbor_any {op : Nat} (p : Nat) (gs : List Gl) (ts : List Ti) (xs : List Pl) (i : Nat) (e : Pl) (d : Nat) (w : World) (ha : AsmAt w p op xs) (hV : Valid gs ts xs) (he : xs[i]? = some e) (hd : d < 4) :
    Calls Tryz.prog 99 #[.pointer (some ⟨p, op, none⟩), .int .i64 i, .int .i64 d] w fun e' w' => e' = .returned (.int .i64 (placeI xs (stepX e.x d) (stepY e.y d))) ∧ Below w.heap.size w w' := by
  obtain ⟨hlt, ⟨A, n, c, h1, h2⟩⟩ := id ha
  have hl := h2.len
  have hin : i < n := by have := lt_of_get he; omega
  obtain ⟨b, o, rfl, hb, hc⟩ := h2.ptr (by omega)
  obtain ⟨c0, c1, c2⟩ := hc i e he
  have hpt := hV.pt i e he
  clear hc he h2
  
  go_enter Tryz.func99, Tryz.ntmps99
  go_wp2_with (first
    | (go_at_call 87; refine (l01Step_any _ _ _ _ ⟨by omega, by omega⟩ ⟨by omega, by omega⟩ ⟨by omega, by omega⟩).mono ?_; rintro e w1 ⟨rfl, hb1⟩; obtain ⟨chb1, fhb1, shb1, thb1⟩ := bcell hb1)
    | (go_at_call 88; refine (l03Index_any _ gs ts xs _ _ _ (ha.below (by exact bel_)) hV).mono ?_; rintro e w2 ⟨rfl, hb2⟩; obtain ⟨chb2, fhb2, shb2, thb2⟩ := bcell hb2))
  go_ret
  exact ⟨rfl, by exact bel_⟩
end Go.Proofs.YtmhgjgclclnmaaaGreat
