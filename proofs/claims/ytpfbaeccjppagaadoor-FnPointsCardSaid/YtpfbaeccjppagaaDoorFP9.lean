/- Walks: a point's text, the program's and the reference's. -/
import Derived.Test.YtpfbaeccjppagaaDoorFP8
import Derived.Lib.IndexMore
import Derived.Lib.ParseIntB
namespace Go.Proofs.YtpfbaeccjppagaaDoor
open Go.RowKit
set_option linter.unusedSimpArgs false
set_option linter.unusedVariables false
attribute [local go_sem] BelowBy.cell BelowBy.cell_drew stillUpon givesUpon

def textB (x y : Int) : ByteArray := if validPt x y then decB x ++ ⟨#[44]⟩ ++ decB y else ⟨#[]⟩
theorem dec3_len (n : Int) : (dec3 n).length ≤ 3 := by
  have h2 : ∀ u, (dec2 u).length ≤ 2 := fun u => by unfold dec2; split <;> simp
  unfold dec3
  split
  · have := h2 n.natAbs; simp only [List.length_cons]; omega
  · have := h2 n.natAbs; omega
theorem decB_size (n : Int) : (decB n).size ≤ 3 := dec3_len n
set_option maxRecDepth 100000 in
set_option maxHeartbeats 2000000 in
theorem PointText_v {x y : Int} {s : ByteArray} (w : World) (hT : Tab w) (hs : textB x y = s) :
    Calls Tryd.prog 8 #[.agg #[.int .i64 x, .int .i64 y]] w fun e w' => e = .returned (.string s) ∧ Below w.heap.size w w' := by
  have hTH := Lib.hid hT
  have hsH := Lib.hid hs
  clear hT hs
  cases hv : validPt x y
  · have hvH := Lib.hid hv
    clear hv
    go_enter Tryd.func8, Tryd.ntmps8
    go_wp2_with (go_at_call 17; refine (ValidPoint_v _ hvH.out).mono ?_; rintro e w1 ⟨rfl, hb1⟩; obtain ⟨chb1, fhb1, shb1, thb1⟩ := bcell hb1)
    go_ret
    refine ⟨?_, by exact bel_⟩
    rw [← hsH.out, textB, hvH.out]
    rfl
  · obtain ⟨⟨x1, x2⟩, y1, y2⟩ := validPt_iff.1 hv
    have hvH := Lib.hid hv
    obtain ⟨sx, hsx⟩ : ∃ v, decB x = v := ⟨_, rfl⟩
    obtain ⟨sy, hsy⟩ : ∃ v, decB y = v := ⟨_, rfl⟩
    have zx : sx.size ≤ 3 := by rw [← hsx]; exact decB_size x
    have zy : sy.size ≤ 3 := by rw [← hsy]; exact decB_size y
    have hE := Lib.hid (show sx ++ ⟨#[44]⟩ ++ sy = s by rw [← hsH.out, textB, hv, if_pos rfl, hsx, hsy])
    have hsxH := Lib.hid hsx
    have hsyH := Lib.hid hsy
    have z44 : (⟨#[44]⟩ : ByteArray).size = 1 := rfl
    have hcat1 := fun W : World => run_string_add_sum (P := Tryd.prog) (w := W) sx ⟨#[44]⟩ (by rw [z44]; omega)
    have hcat2 := fun W : World => run_string_add_sum (P := Tryd.prog) (w := W) (sx ++ ⟨#[44]⟩) sy (by rw [ByteArray.size_append, z44]; omega)
    clear hv hsx hsy
    go_enter Tryd.func8, Tryd.ntmps8
    go_wp2_with fail
    refine (ValidPoint_v _ hvH.out).mono ?_; rintro e w1 ⟨rfl, hb1⟩; obtain ⟨chb1, fhb1, shb1, thb1⟩ := bcell hb1
    have sa1 := shb1 w.heap.size (by go_simp)
    go_wp2_with fail
    refine wp_region_ord [(0, .q), (1, .q), (4, .q), (5, .q), (2, .g), (3, .q), (6, .g), (7, .q), (8, .q)] (by kernel_rfl) (by kernel_rfl) ?_
    simp only [pick, List.filterMap_cons, List.filterMap_nil, List.getElem?_toArray, List.getElem?_cons_zero, List.getElem?_cons_succ, Option.map_some]
    
    repeat (first
      | ((with_reducible refine wpD_p (fun K hK => ?_)); go_simp; refine hK _ ?_; clear hK K)
      | ((with_reducible refine wpD_q (fun K hK => ?_)); go_simp; (first | refine hK _ ?_ | (go_bits; refine hK _ ?_) | (go_bits; go_simp; refine hK _ ?_)); clear hK K)
      | ((with_reducible refine wpD_g (fun K hK => ?_)); go_simp; refine hK _ _ ?_; clear hK K)
      | ((with_reducible refine wpD_g (fun K hK => ?_)); go_simp; refine ⟨Grew.of_alloc _, hK _ _ ?_⟩; clear hK K)
      | ((with_reducible refine wpD_g (fun K hK => ?_)); go_simp; go_at_call 23; refine (Decimal_v _ (by first | exact x1 | exact y1) (by first | exact x2 | exact y2) (hTH.out.below (by exact bel_)) (by first | exact hsxH.out | exact hsyH.out)).mono ?_; rintro e w2 ⟨rfl, hb2⟩; refine ⟨_, rfl, hb2, hK _ _ ?_⟩; clear hK K; obtain ⟨chb2, fhb2, shb2, thb2⟩ := bcell hb2; (try have bhb20 := shb2 (w.heap.size) (by go_simp))))
    
    with_reducible refine wpD_nil ?_
    go_wp2
    refine bodyPost_ret (v := .string (sx ++ ⟨#[44]⟩ ++ sy)) (by simp only [results, Tryd.results8]; go_simp) rfl ?_
    exact ⟨by rw [hE.out], by exact bel_⟩
set_option maxRecDepth 100000 in
set_option maxHeartbeats 2000000 in
theorem lPointText_v {x y : Int} {s : ByteArray} (w : World) (hs : textB x y = s) :
    Calls Tryd.prog 9 #[.agg #[.int .i64 x, .int .i64 y]] w fun e w' => e = .returned (.string s) ∧ Below w.heap.size w w' := by
  have hsH := Lib.hid hs
  clear hs
  cases hv : validPt x y
  · have hvH := Lib.hid hv
    clear hv
    go_enter Tryd.func9, Tryd.ntmps9
    go_wp2_with (go_at_call 20; refine (l01Point_v _ hvH.out).mono ?_; rintro e w1 ⟨rfl, hb1⟩; obtain ⟨chb1, fhb1, shb1, thb1⟩ := bcell hb1)
    go_ret
    refine ⟨?_, by exact bel_⟩
    rw [← hsH.out, textB, hvH.out]
    rfl
  · obtain ⟨⟨x1, x2⟩, y1, y2⟩ := validPt_iff.1 hv
    have hvH := Lib.hid hv
    obtain ⟨sx, hsx⟩ : ∃ v, decB x = v := ⟨_, rfl⟩
    obtain ⟨sy, hsy⟩ : ∃ v, decB y = v := ⟨_, rfl⟩
    have zx : sx.size ≤ 3 := by rw [← hsx]; exact decB_size x
    have zy : sy.size ≤ 3 := by rw [← hsy]; exact decB_size y
    have hE := Lib.hid (show sx ++ ⟨#[44]⟩ ++ sy = s by rw [← hsH.out, textB, hv, if_pos rfl, hsx, hsy])
    have hsxH := Lib.hid hsx
    have hsyH := Lib.hid hsy
    have z44 : (⟨#[44]⟩ : ByteArray).size = 1 := rfl
    have hcat1 := fun W : World => run_string_add_sum (P := Tryd.prog) (w := W) sx ⟨#[44]⟩ (by rw [z44]; omega)
    have hcat2 := fun W : World => run_string_add_sum (P := Tryd.prog) (w := W) (sx ++ ⟨#[44]⟩) sy (by rw [ByteArray.size_append, z44]; omega)
    clear hv hsx hsy
    go_enter Tryd.func9, Tryd.ntmps9
    go_wp2_with fail
    refine (l01Point_v _ hvH.out).mono ?_; rintro e w1 ⟨rfl, hb1⟩; obtain ⟨chb1, fhb1, shb1, thb1⟩ := bcell hb1
    have sa1 := shb1 w.heap.size (by go_simp)
    go_wp2_with fail
    refine wp_region_ord [(0, .q), (1, .q), (4, .q), (5, .q), (2, .g), (3, .q), (6, .g), (7, .q), (8, .q)] (by kernel_rfl) (by kernel_rfl) ?_
    simp only [pick, List.filterMap_cons, List.filterMap_nil, List.getElem?_toArray, List.getElem?_cons_zero, List.getElem?_cons_succ, Option.map_some]
    
    repeat (first
      | ((with_reducible refine wpD_p (fun K hK => ?_)); go_simp; refine hK _ ?_; clear hK K)
      | ((with_reducible refine wpD_q (fun K hK => ?_)); go_simp; (first | refine hK _ ?_ | (go_bits; refine hK _ ?_) | (go_bits; go_simp; refine hK _ ?_)); clear hK K)
      | ((with_reducible refine wpD_g (fun K hK => ?_)); go_simp; refine hK _ _ ?_; clear hK K)
      | ((with_reducible refine wpD_g (fun K hK => ?_)); go_simp; refine ⟨Grew.of_alloc _, hK _ _ ?_⟩; clear hK K)
      | ((with_reducible refine wpD_g (fun K hK => ?_)); go_simp; go_at_call 24; refine (lDecimal_v _ (by first | exact x1 | exact y1) (by first | exact x2 | exact y2) (by first | exact hsxH.out | exact hsyH.out)).mono ?_; rintro e w2 ⟨rfl, hb2⟩; refine ⟨_, rfl, hb2, hK _ _ ?_⟩; clear hK K; obtain ⟨chb2, fhb2, shb2, thb2⟩ := bcell hb2; (try have bhb20 := shb2 (w.heap.size) (by go_simp))))
    
    with_reducible refine wpD_nil ?_
    go_wp2
    refine bodyPost_ret (v := .string (sx ++ ⟨#[44]⟩ ++ sy)) (by simp only [results, Tryd.results9]; go_simp) rfl ?_
    exact ⟨by rw [hE.out], by exact bel_⟩
theorem dec3_parse_fin : ∀ u : Fin 121, (match Lib.parseIntB 64 (dec3 ((u.val : Int) - 60)) with | .ok v => decide (v = (u.val : Int) - 60) | _ => false) = true := by decide +kernel
theorem dec3_parse {n : Int} (h0 : -60 ≤ n) (h1 : n ≤ 60) : Lib.parseIntB 64 (decB n).data.toList = .ok n := by
  have h := dec3_parse_fin ⟨(n + 60).toNat, by omega⟩
  have e : (((⟨(n + 60).toNat, by omega⟩ : Fin 121).val : Nat) : Int) - 60 = n := by show ((n + 60).toNat : Int) - 60 = n; omega
  rw [e] at h
  have e2 : (decB n).data.toList = dec3 n := by simp [decB]
  rw [e2]
  split at h
  · rename_i v hv
    rw [hv, of_decide_eq_true h]
  · cases h
theorem dec3_comma_fin : ∀ u : Fin 121, ((dec3 ((u.val : Int) - 60)).all fun b => b != 44) = true := by decide +kernel
theorem dec3_comma {n : Int} (h0 : -60 ≤ n) (h1 : n ≤ 60) : ((dec3 n).all fun b => b != 44) = true := by
  have h := dec3_comma_fin ⟨(n + 60).toNat, by omega⟩
  have e : (((⟨(n + 60).toNat, by omega⟩ : Fin 121).val : Nat) : Int) - 60 = n := by show ((n + 60).toNat : Int) - 60 = n; omega
  rw [e] at h
  exact h
theorem index_at : ∀ (a b : List UInt8), (a.all fun c => c != 44) = true → Lib.index (a ++ 44 :: b) [44] = (a.length : Int)
  | [], b, _ => by
    show Lib.index (44 :: b) [44] = _
    unfold Lib.index
    rw [if_pos (by simp [List.isPrefixOf])]
    rfl
  | c :: a, b, h => by
    rw [List.all_cons, Bool.and_eq_true] at h
    have ih := index_at a b h.2
    have hc : (44 == c) = false := by
      have := h.1
      cases hh : (44 == c)
      · rfl
      · rw [← eq_of_beq hh] at this; cases this
    show Lib.index (c :: (a ++ 44 :: b)) [44] = _
    unfold Lib.index
    rw [if_neg (by simp [List.isPrefixOf, hc]), ih, if_neg (by simp)]
    simp
theorem cut_comma (a b : List UInt8) (h : (a.all fun c => c != 44) = true) : Lib.cut (a ++ 44 :: b) [44] = (a, b, true) := by
  unfold Lib.cut
  rw [index_at a b h, if_pos (by omega)]
  simp
theorem text_list {x y : Int} (h : validPt x y = true) : (textB x y).data.toList = dec3 x ++ 44 :: dec3 y := by
  unfold textB
  rw [h, if_pos rfl]
  simp [decB]
theorem text_cut {x y : Int} (h : validPt x y = true) : Lib.cut (textB x y).data.toList [44] = (dec3 x, dec3 y, true) := by
  rw [text_list h]
  obtain ⟨⟨x1, x2⟩, _⟩ := validPt_iff.1 h
  exact cut_comma _ _ (dec3_comma x1 x2)
theorem text_size {x y : Int} (h : validPt x y = true) : (textB x y).size ≤ 10 := by
  have : (textB x y).size = (textB x y).data.toList.length := rfl
  rw [this, text_list h]
  have h1 := dec3_len x
  have h2 := dec3_len y
  simp only [List.length_append, List.length_cons]
  omega
end Go.Proofs.YtpfbaeccjppagaaDoor
