/- Walk: the program's CheckFlow. -/
import Derived.Test.YtmhgjgclclnmaaaGreatP2
import Derived.Test.YtmhgjgclclnmaaaGreatHTo
import Derived.Test.YtmhgjgclclnmaaaGreatW17a
namespace Go.Proofs.YtmhgjgclclnmaaaGreat
open Go.RowKit
set_option linter.unusedSimpArgs false
set_option linter.unusedVariables false
attribute [local go_sem] BelowBy.cell BelowBy.cell_drew stillUpon givesUpon

set_option maxRecDepth 100000 in
set_option maxHeartbeats 2000000 in
theorem CheckFlow_any (G T A F : Option Addr) (n cg m ct q ca nf cf : Nat) (gs : List Gl) (ts : List Ti) (xs : List Pl) (fl : List Int) (x y : Int) (w : World) (hG : RdSl 2 RGl w G n gs) (hT : RdSl 2 RTi w T m ts) (hA : RdSl 3 RPl w A q xs) (hF : RdSl 1 RInt w F nf fl)
    (hgm : n ≤ 281474976710656) (htm : m ≤ 281474976710656) (hq : q ≤ 1073741824) (hnf : nf ≤ 1073741824)
    (hgn : ∀ (k : Nat) (e : Gl), gs[k]? = some e → e.name.size ≤ 9223372036854775807) (htn : ∀ (k : Nat) (e : Ti), ts[k]? = some e → e.name.size ≤ 9223372036854775807 ∧ e.sides.length ≤ 9223372036854775807) :
    Calls Tryz.prog 13 #[.agg #[.slice G n cg, .slice T m ct], .agg #[.slice A q ca], .int .i64 x, .int .i64 y, .slice F nf cf] w (ChkRes w (checkFlowR gs ts xs x y fl)) := by
  have hgn := Lib.hid hgn
  have htn := Lib.hid htn
  have hql := hA.len
  have hfl := hF.len
  have hmk := fun W => run_makeN (P := Tryz.prog) 33 2 _ 1 8 Tryz.underlying33 infoI q (by omega) (by omega) W
  obtain ⟨cc, hcc⟩ : ∃ cc, cutCodeI (validAsmB gs ts xs) xs.length x y = cc := ⟨_, rfl⟩
  have hccH := Lib.hid hcc
  by_cases hc0 : cc = 0
  · subst hc0
    obtain ⟨hval, hx, hy, hxy⟩ := cutCodeI_zero hcc
    have hV := valid_of hval
    obtain ⟨xn, rfl⟩ : ∃ xn : Nat, x = xn := ⟨x.toNat, by omega⟩
    clear hcc hval
    go_enter Tryz.func13, Tryz.ntmps13
    go_wp2_with (go_at_call 50; refine (cutCode_at (hG.below RGl.stable (by exact bel_)) (hT.below RTi.stable (by exact bel_)) (hA.below RPl.stable (by exact bel_)) hgm htm hq hgn.out htn.out hccH.out).mono ?_; rintro e w1 ⟨rfl, hb1⟩; obtain ⟨chb1, fhb1, shb1, thb1⟩ := bcell hb1; have bhb1 := shb1 (w.heap.size + 1) (by go_simp))
    refine (bonds_any _ _ _ _ _ _ _ _ _ gs ts xs _ (hG.below RGl.stable (by exact bel_)) (hT.below RTi.stable (by exact bel_)) (hA.below RPl.stable (by exact bel_)) hV).mono ?_
    rintro e w2 ⟨v, rfl, hrow, hb2⟩
    obtain ⟨B, cb, rfl, hB⟩ := rd_of_row hrow
    have hbat := fun (k : Nat) (b : Bd) (h : (bondsL gs ts xs)[k]? = some b) => bondsL_at hV h
    have hbne := fun (k : Nat) (b : Bd) (h : (bondsL gs ts xs)[k]? = some b) => bondsL_ne h
    have hblen := bondsL_len hV
    have hres : checkFlowR gs ts xs xn y fl = (if fl.length ≠ (bondsL gs ts xs).length then (0, 10) else if allB (bondsL gs ts xs).length (okFlow (bondsL gs ts xs) fl) = false then (0, 10) else if allB xs.length (okLeaf (bondsL gs ts xs) fl xn y) = false then (0, 10) else (leaf (bondsL gs ts xs) fl xn (bondsL gs ts xs).length, 0)) := by
      unfold checkFlowR
      rw [hccH.out, if_neg (by simp), Int.toNat_natCast]
    clear hrow
    generalize bondsL gs ts xs = bs at *
    have hresH := Lib.hid hres
    clear hres
    have hbat := Lib.hid hbat
    have hbne := Lib.hid hbne
    obtain ⟨chb2, fhb2, shb2, thb2⟩ := bcell hb2
    have bhb2 := shb2 (w.heap.size + 1) (by go_simp)
    have hBw : Below w.heap.size w w2 := by exact bel_
    have hF2 := hF.below RInt.stable hBw
    by_cases hl : nf = bs.length
    rotate_left
    · have hl' : ((nf : Int) != (bs.length : Int)) = true := by simp; omega
      go_wp2
      go_ret2
      exact ChkRes.of (by rw [hresH.out, if_pos (by omega)]) (by exact bel_)
    subst hl
    have hres2 : checkFlowR gs ts xs xn y fl = (if allB bs.length (okFlow bs fl) = false then (0, 10) else if allB xs.length (okLeaf bs fl xn y) = false then (0, 10) else (leaf bs fl xn bs.length, 0)) := by
      rw [hresH.out, if_neg (by omega)]
    have hresH := Lib.hid hres2
    clear hres2
    have hBh := Lib.hid hB
    have hFh := Lib.hid hF2
    have hFw := Lib.hid hF
    clear hB hF2 hF
    go_wp2
    go_loopg [41] bs.length (fun g i wr => ∃ k : Nat, k + g = bs.length ∧ i = .int .i64 k ∧ (∀ j, j < k → okFlow bs fl j = true) ∧ Below w2.heap.size w2 wr ∧ wr.rowIs w2.heap.size 2 q (fun t => .int .i64 (leaf bs fl t k)))
    case atStart => exact ⟨0, by omega, rfl, fun j hj => by omega, by exact bel_, (rowIs_make _ _ _ _).congr (fun t ht => by simp [leaf, Nat.mod_one])⟩
    case round =>
      obtain ⟨k, hk, rfl, hokX, hbw, hrow⟩ := hrel
      have hokT := Lib.hid hokX
      clear hokX
      have hlb := hrow.lt
      by_cases hkn : k < bs.length
      · obtain ⟨bb, ob, rfl, hbb, hbc⟩ := hBh.out.ptr (by omega)
        obtain ⟨e, he⟩ := hBh.out.get hkn
        obtain ⟨e0', e1', e2'⟩ := hbc k e he
        have e0 := (hbw.cell (p := ⟨bb, ob + k * 3, none⟩) hbb).trans e0'
        have e1 := (hbw.cell (p := ⟨bb, ob + k * 3 + 1, none⟩) hbb).trans e1'
        have e2 := (hbw.cell (p := ⟨bb, ob + k * 3 + 2, none⟩) hbb).trans e2'
        have hbb2 := Nat.lt_of_lt_of_le hbb hbw.size
        obtain ⟨fb, fo, rfl, hfb, hfc⟩ := hFh.out.ptr (by omega)
        obtain ⟨f, hf⟩ := hFh.out.get hkn
        have f0' := hfc k f hf
        simp only [RInt, Nat.mul_one] at f0'
        have f0 := (hbw.cell (p := ⟨fb, fo + k, none⟩) hfb).trans f0'
        have hfb2 := Nat.lt_of_lt_of_le hfb hbw.size
        obtain ⟨hea, heb, hes0, hes4⟩ := hbat.out k e he
        have hne := hbne.out k e he
        have HS := Lib.hid (fun t : Nat => leaf_succ (t := t) he hf)
        have HO := Lib.hid (okFlow_eq he hf)
        clear e0' e1' e2' f0' hbc hfc he hf
        have hwr : IntKind.i64.wrap (-e.s) = -e.s := wrap_in (by omega) (by omega)
        cases hv : inB f (-e.s) e.s
        · go_wp2
          refine wp_region_ord [(0, .q), (1, .q), (2, .q), (3, .q), (4, .q), (5, .q), (6, .q), (7, .q), (8, .q), (9, .g), (10, .q)] (by kernel_rfl) (by kernel_rfl) ?_
          simp only [pick, List.filterMap_cons, List.filterMap_nil, List.getElem?_toArray, List.getElem?_cons_zero, List.getElem?_cons_succ, Option.map_some]
          repeat (first
            | ((with_reducible refine wpD_p (fun K hK => ?_)); go_simp; refine hK _ ?_; clear hK K)
            | ((with_reducible refine wpD_q (fun K hK => ?_)); go_simp; (first | refine hK _ ?_ | (go_bits; refine hK _ ?_) | (go_bits; go_simp; refine hK _ ?_)); clear hK K)
            | ((with_reducible refine wpD_g (fun K hK => ?_)); go_simp; refine hK _ _ ?_; clear hK K)
            | ((with_reducible refine wpD_g (fun K hK => ?_)); go_simp; refine ⟨Grew.of_alloc _, hK _ _ ?_⟩; clear hK K)
            | ((with_reducible refine wpD_g (fun K hK => ?_)); go_simp; go_at_call 51; refine (within_any _ _ _ _).mono ?_; rintro e _ ⟨rfl, rfl⟩; refine ⟨_, rfl, Below.refl _ _, hK _ _ ?_⟩; clear hK K))
          with_reducible refine wpD_nil ?_
          go_wp2
          go_ret2
          exact ChkRes.of (by rw [hresH.out, if_pos (allB_false hkn (by rw [HO.out, hv]))]) (by exact bel_)
        · go_wp2
          refine wp_region_ord [(0, .q), (1, .q), (2, .q), (3, .q), (4, .q), (5, .q), (6, .q), (7, .q), (8, .q), (9, .g), (10, .q)] (by kernel_rfl) (by kernel_rfl) ?_
          simp only [pick, List.filterMap_cons, List.filterMap_nil, List.getElem?_toArray, List.getElem?_cons_zero, List.getElem?_cons_succ, Option.map_some]
          repeat (first
            | ((with_reducible refine wpD_p (fun K hK => ?_)); go_simp; refine hK _ ?_; clear hK K)
            | ((with_reducible refine wpD_q (fun K hK => ?_)); go_simp; (first | refine hK _ ?_ | (go_bits; refine hK _ ?_) | (go_bits; go_simp; refine hK _ ?_)); clear hK K)
            | ((with_reducible refine wpD_g (fun K hK => ?_)); go_simp; refine hK _ _ ?_; clear hK K)
            | ((with_reducible refine wpD_g (fun K hK => ?_)); go_simp; refine ⟨Grew.of_alloc _, hK _ _ ?_⟩; clear hK K)
            | ((with_reducible refine wpD_g (fun K hK => ?_)); go_simp; go_at_call 51; refine (within_any _ _ _ _).mono ?_; rintro e _ ⟨rfl, rfl⟩; refine ⟨_, rfl, Below.refl _ _, hK _ _ ?_⟩; clear hK K))
          with_reducible refine wpD_nil ?_
          have hfv := inB_true.1 hv
          have hlA := leaf_bound (fl := fl) (k := k) (fun j b hb => (hbat.out j b hb).2.2.2) hokT.out e.a
          have hlB := leaf_bound (fl := fl) (k := k) (fun j b hb => (hbat.out j b hb).2.2.2) hokT.out e.b
          obtain ⟨la, hla⟩ : ∃ la, leaf bs fl e.a k = la := ⟨_, rfl⟩
          obtain ⟨lb, hlb'⟩ : ∃ lb, leaf bs fl e.b k = lb := ⟨_, rfl⟩
          have cA := hrow.cell (i := e.a) (by omega)
          have cB := hrow.cell (i := e.b) (by omega)
          have fA := hrow.frozen e.a
          have fB := hrow.frozen e.b
          rw [hla] at cA hlA
          rw [hlb'] at cB hlB
          have hlaH := Lib.hid hla
          have hlbH := Lib.hid hlb'
          have hA1 : -8000 ≤ la := by omega
          have hA2 : la ≤ 8000 := by omega
          have hB1 : -8000 ≤ lb := by omega
          have hB2 : lb ≤ 8000 := by omega
          have hf1 : -4 ≤ f := by omega
          have hf2 : f ≤ 4 := by omega
          have hne2 : ¬ e.b = e.a := fun h => hne h.symm
          have hea2 : (e.a : Int) < q := by omega
          have heb2 : (e.b : Int) < q := by omega
          clear hlA hlB hla hlb' hfv
          go_wp2
          refine wp_region_ord [(0, .q), (1, .q), (2, .q), (3, .q), (4, .q), (5, .q), (6, .q), (7, .q), (8, .q), (9, .q), (10, .q), (11, .b)] (by kernel_rfl) (by kernel_rfl) ?_
          simp only [pick, List.filterMap_cons, List.filterMap_nil, List.getElem?_toArray, List.getElem?_cons_zero, List.getElem?_cons_succ, Option.map_some]
          repeat (first
            | ((with_reducible refine wpD_p (fun K hK => ?_)); go_simp; refine hK _ ?_; clear hK K)
            | ((with_reducible refine wpD_q (fun K hK => ?_)); go_simp; (first | refine hK _ ?_ | (go_bits; refine hK _ ?_) | (go_bits; go_simp; refine hK _ ?_)); clear hK K)
            | ((with_reducible refine wpD_g (fun K hK => ?_)); go_simp; refine hK _ _ ?_; clear hK K)
            | ((with_reducible refine wpD_g (fun K hK => ?_)); go_simp; refine ⟨Grew.of_alloc _, hK _ _ ?_⟩; clear hK K))
          with_reducible refine wpD_b (fun K hK => ?_)
          go_simp
          refine hK _ _ ?_
          clear hK K
          with_reducible refine wpD_nil ?_
          go_wp2
          refine wp_region_ord [(0, .q), (1, .q), (2, .q), (3, .q), (4, .q), (5, .q), (6, .q), (7, .q), (8, .q), (9, .q), (10, .q), (11, .b)] (by kernel_rfl) (by kernel_rfl) ?_
          simp only [pick, List.filterMap_cons, List.filterMap_nil, List.getElem?_toArray, List.getElem?_cons_zero, List.getElem?_cons_succ, Option.map_some]
          repeat (first
            | ((with_reducible refine wpD_p (fun K hK => ?_)); go_simp; refine hK _ ?_; clear hK K)
            | ((with_reducible refine wpD_q (fun K hK => ?_)); go_simp; (first | refine hK _ ?_ | (go_bits; refine hK _ ?_) | (go_bits; go_simp; refine hK _ ?_)); clear hK K)
            | ((with_reducible refine wpD_g (fun K hK => ?_)); go_simp; refine hK _ _ ?_; clear hK K)
            | ((with_reducible refine wpD_g (fun K hK => ?_)); go_simp; refine ⟨Grew.of_alloc _, hK _ _ ?_⟩; clear hK K))
          with_reducible refine wpD_b (fun K hK => ?_)
          go_simp
          refine hK _ _ ?_
          clear hK K
          with_reducible refine wpD_nil ?_
          go_wp2
          go_roundg (bs.length - (k + 1))
          case measure => omega
          case rel => exact ⟨k + 1, by omega, by go_num, fun j hj => (by rcases Nat.lt_succ_iff_lt_or_eq.1 hj with hj | rfl; exact hokT.out j hj; rw [HO.out, hv]), by exact bel_, (((hrow.set e.a _).set e.b _).alloc _).congr (fun t ht => by
            rw [HS.out t]
            by_cases h1 : t = e.b
            · subst h1; simp [hlbH.out, hne2]
            · by_cases h2 : t = e.a
              · subst h2; simp [hlaH.out, h1]
              · simp [h1, h2])⟩
      · obtain rfl : k = bs.length := by omega
        have hokF := Lib.hid (allB_true (n := bs.length) hokT.out)
        have hresF : checkFlowR gs ts xs xn y fl = (if allB xs.length (okLeaf bs fl xn y) = false then (0, 10) else (leaf bs fl xn bs.length, 0)) := by
          rw [hresH.out, hokF.out]; simp
        have hresF := Lib.hid hresF
        have hBwr : Below w.heap.size w wr := hBw.trans (hbw.mono hBw.size)
        go_wp2
        obtain ⟨W3, hW3⟩ : ∃ W3, W3 = wr := ⟨_, rfl⟩
        subst hW3
        go_loopg [82] q (fun g i w' => ∃ k : Nat, k + g = q ∧ i = .int .i64 k ∧ (∀ j, j < k → okLeaf bs fl xn y j = true) ∧ W3 = w')
        case atStart => exact ⟨0, by omega, rfl, fun j hj => by omega, rfl⟩
        case round =>
          obtain ⟨k, hk, rfl, hokX, rfl⟩ := hrel
          have hokT2 := Lib.hid hokX
          clear hokX
          by_cases hkn : k < q
          · have cK := hrow.cell (i := k) hkn
            have HL : okLeaf bs fl xn y k = (decide (leaf bs fl k bs.length = 0) || (decide ((k : Int) = xn) || decide ((k : Int) = y))) := rfl
            obtain ⟨lv, hlv⟩ : ∃ lv, leaf bs fl k bs.length = lv := ⟨_, rfl⟩
            rw [hlv] at cK HL
            clear hlv
            have HLh := Lib.hid HL
            clear HL
            by_cases h0 : lv = 0
            · subst h0
              go_wp2
              go_roundg (q - (k + 1))
              case measure => omega
              case rel => exact ⟨k + 1, by omega, by go_num, fun j hj => (by rcases Nat.lt_succ_iff_lt_or_eq.1 hj with hj | rfl; exact hokT2.out j hj; rw [HLh.out]; simp), rfl⟩
            · have h0' : (lv != 0) = true := by simpa using h0
              by_cases hkx : (k : Int) = xn
              · have hkx' : ((k : Int) != xn) = false := by simpa using hkx
                have hkxH := Lib.hid hkx
                clear hkx
                go_wp2
                go_roundg (q - (k + 1))
                case measure => omega
                case rel => exact ⟨k + 1, by omega, by go_num, fun j hj => (by rcases Nat.lt_succ_iff_lt_or_eq.1 hj with hj | rfl; exact hokT2.out j hj; rw [HLh.out, decide_eq_true hkxH.out]; simp), rfl⟩
              · have hkx' : ((k : Int) != xn) = true := by simpa using hkx
                by_cases hky : (k : Int) = y
                · have hky' : ((k : Int) != y) = false := by simpa using hky
                  have hkyH := Lib.hid hky
                  clear hky
                  go_wp2
                  go_roundg (q - (k + 1))
                  case measure => omega
                  case rel => exact ⟨k + 1, by omega, by go_num, fun j hj => (by rcases Nat.lt_succ_iff_lt_or_eq.1 hj with hj | rfl; exact hokT2.out j hj; rw [HLh.out, decide_eq_true hkyH.out]; simp), rfl⟩
                · have hky' : ((k : Int) != y) = true := by simpa using hky
                  go_wp2
                  go_ret2
                  exact ChkRes.of (by rw [hresF.out, if_pos (allB_false (k := k) (by omega) (by rw [HLh.out, decide_eq_false h0, decide_eq_false hkx, decide_eq_false hky]; rfl))]) (by exact bel_)
          · obtain rfl : k = q := by omega
            have cX := hrow.cell (i := xn) (by omega)
            have hxq : xn < k := by omega
            have hxq2 : (xn : Int) < k := by omega
            go_wp2
            go_ret2
            exact ChkRes.of (by rw [hresF.out, if_neg (by rw [allB_true (fun j hj => hokT2.out j (by omega))]; simp)]) (by exact bel_)
  · have hc1 : (cc != 0) = true := by simpa using hc0
    clear hcc
    go_enter Tryz.func13, Tryz.ntmps13
    go_wp2_with (go_at_call 50; refine (cutCode_at (hG.below RGl.stable (by exact bel_)) (hT.below RTi.stable (by exact bel_)) (hA.below RPl.stable (by exact bel_)) hgm htm hq hgn.out htn.out hccH.out).mono ?_; rintro e w1 ⟨rfl, hb1⟩)
    go_ret2
    refine ChkRes.of ?_ (by exact bel_)
    unfold checkFlowR
    rw [hccH.out, if_pos hc0]
end Go.Proofs.YtmhgjgclclnmaaaGreat
