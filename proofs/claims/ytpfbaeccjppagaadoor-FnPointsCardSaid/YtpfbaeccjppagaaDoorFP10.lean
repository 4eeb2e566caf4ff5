/- Walks: a numeral read back, a point read back. -/
import Derived.Test.YtpfbaeccjppagaaDoorFP9
namespace Go.Proofs.YtpfbaeccjppagaaDoor
open Go.RowKit Go.Shelf
set_option linter.unusedSimpArgs false
set_option linter.unusedVariables false
attribute [local go_sem] BelowBy.cell BelowBy.cell_drew stillUpon givesUpon

theorem index_one_at {s : ByteArray} {c : UInt8} (w : World) {i : Int} (hi : Lib.index s.data.toList [c] = i) :
    Calls Tryd.prog 41 #[.string s, .string { data := #[c] }] w fun e w' => e = .returned (.int .i64 i) ∧ w = w' := by
  subst hi
  refine (Tryd.stringslite_Index_one s c w).mono ?_
  rintro e w' ⟨rfl, rfl⟩
  exact ⟨by rw [Lib.index_one], rfl⟩
set_option maxRecDepth 100000 in
set_option maxHeartbeats 2000000 in
theorem cutS_at {s : ByteArray} {c : UInt8} (w : World) (hs : s.size ≤ 1000000) {a b : List UInt8} {f : Bool} (h : Lib.cut s.data.toList [c] = (a, b, f)) :
    Calls Tryd.prog 36 #[.string s, .string { data := #[c] }] w fun e w' => e = .returned (.tuple #[.string { data := ⟨a⟩ }, .string { data := ⟨b⟩ }, .bool f]) ∧ Below w.heap.size w w' := by
  have hsz1 : ({ data := #[c] } : ByteArray).size = 1 := rfl
  rcases Lib.indexB_cases s { data := #[c] } with hix | ⟨i, hix, hroom⟩
  · have hixH := Lib.hid (show Lib.index s.data.toList [c] = -1 from hix)
    obtain ⟨e1, e2, e3⟩ := Lib.cutB_miss s { data := #[c] } hix
    have e1 : (⟨(Lib.cut s.data.toList [c]).1.toArray⟩ : ByteArray) = s := e1
    have e2 : (⟨(Lib.cut s.data.toList [c]).2.1.toArray⟩ : ByteArray) = ByteArray.empty := e2
    have e3 : (Lib.cut s.data.toList [c]).2.2 = false := e3
    rw [h] at e1 e2 e3
    have e1 : ({ data := ⟨a⟩ } : ByteArray) = s := e1
    have e2 : ({ data := ⟨b⟩ } : ByteArray) = ByteArray.empty := e2
    have e3 : f = false := e3
    rw [e1, e2, e3]
    clear hix e1 e2 e3 h
    go_enter Tryd.func36, Tryd.ntmps36
    go_wp2_with (go_at_call 41; refine (index_one_at _ hixH.out).mono ?_; rintro e _ ⟨rfl, rfl⟩)
    go_ret3
    exact ⟨rfl, by exact bel_⟩
  · have hixH := Lib.hid (show Lib.index s.data.toList [c] = (i : Int) from hix)
    obtain ⟨e1, e2, e3⟩ := Lib.cutB_hit s { data := #[c] } i hix
    have e1 : (⟨(Lib.cut s.data.toList [c]).1.toArray⟩ : ByteArray) = s.extract 0 i := e1
    have e2 : (⟨(Lib.cut s.data.toList [c]).2.1.toArray⟩ : ByteArray) = s.extract (i + 1) s.size := e2
    have e3 : (Lib.cut s.data.toList [c]).2.2 = true := e3
    rw [h] at e1 e2 e3
    have e1 : ({ data := ⟨a⟩ } : ByteArray) = s.extract 0 i := e1
    have e2 : ({ data := ⟨b⟩ } : ByteArray) = s.extract (i + 1) s.size := e2
    have e3 : f = true := e3
    rw [e1, e2, e3]
    rw [hsz1] at hroom
    have c1 : (0 : Int) ≤ (i : Int) := by omega
    have c2 : (i : Int) ≤ (s.size : Int) := by omega
    have c3 : (0 : Int) ≤ (i : Int) + 1 := by omega
    have c4 : (i : Int) + 1 ≤ (s.size : Int) := by omega
    have c5 : IntKind.i64.wrap ((i : Int) + 1) = (i : Int) + 1 := wrapI (by omega) (by omega)
    clear hix e1 e2 e3 h
    go_enter Tryd.func36, Tryd.ntmps36
    go_wp2_with (go_at_call 41; refine (index_one_at _ hixH.out).mono ?_; rintro e _ ⟨rfl, rfl⟩)
    refine wp_region_ord [(0, .q), (1, .q), (2, .q), (3, .q), (4, .q), (5, .q), (6, .q), (7, .q), (8, .q), (9, .q), (10, .q), (11, .q)] (by kernel_rfl) (by kernel_rfl) ?_
    simp only [pick, List.filterMap_cons, List.filterMap_nil, List.getElem?_toArray, List.getElem?_cons_zero, List.getElem?_cons_succ, Option.map_some]
    repeat (first
      | ((with_reducible refine wpD_p (fun K hK => ?_)); go_simp; refine hK _ ?_; clear hK K)
      | ((with_reducible refine wpD_q (fun K hK => ?_)); go_simp; (first | refine hK _ ?_ | (go_bits; refine hK _ ?_) | (go_bits; go_simp; refine hK _ ?_)); clear hK K)
      | ((with_reducible refine wpD_g (fun K hK => ?_)); go_simp; refine hK _ _ ?_; clear hK K)
      | ((with_reducible refine wpD_g (fun K hK => ?_)); go_simp; refine ⟨Grew.of_alloc _, hK _ _ ?_⟩; clear hK K))
    with_reducible refine wpD_nil ?_
    go_wp2
    go_ret3
    exact ⟨rfl, by exact bel_⟩
set_option maxRecDepth 100000 in
set_option maxHeartbeats 2000000 in
theorem cut_at {s : ByteArray} {c : UInt8} (w : World) (hs : s.size ≤ 1000000) {a b : List UInt8} {f : Bool} (h : Lib.cut s.data.toList [c] = (a, b, f)) :
    Calls Tryd.prog 26 #[.string s, .string { data := #[c] }] w fun e w' => e = .returned (.tuple #[.string { data := ⟨a⟩ }, .string { data := ⟨b⟩ }, .bool f]) ∧ Below w.heap.size w w' := by
  go_enter Tryd.func26, Tryd.ntmps26
  go_wp2_with (go_at_call 36; refine (cutS_at _ hs h).mono ?_; rintro e w1 ⟨rfl, hb1⟩)
  go_ret3
  exact ⟨rfl, by exact bel_⟩
theorem ParseInt_v {n : Int} {s : ByteArray} (w : World) (hs : s.size ≤ 1000) (hp : Lib.parseIntB 64 s.data.toList = .ok n) :
    Calls Tryd.prog 37 #[.string s, .int .i64 10, .int .i64 64] w fun e w' => e = .returned (.tuple #[.int .i64 n, .nilIface]) ∧ Below w.heap.size w w' := by
  refine (Tryd.strconv_ParseInt_10_at64_ok s (by omega) n hp w).mono ?_
  rintro e w' ⟨rfl, rfl | ⟨t, rfl⟩⟩
  · exact ⟨rfl, bl_refl _⟩
  · exact ⟨rfl, Lib.bytesWorld_below _ _ _⟩
set_option maxRecDepth 100000 in
set_option maxHeartbeats 2000000 in
theorem ReadDecimal_v {n : Int} {s : ByteArray} (w : World) (hT : Tab w) (h0 : -60 ≤ n) (h1 : n ≤ 60) (hs : decB n = s) :
    Calls Tryd.prog 27 #[.string s] w fun e w' => e = .returned (.tuple #[.int .i64 n, .bool true]) ∧ Below w.heap.size w w' := by
  have hTH := Lib.hid hT
  have hsH := Lib.hid hs
  have hz := Lib.hid (show s.size ≤ 1000 by rw [← hs]; have := decB_size n; omega)
  have hP := Lib.hid (show Lib.parseIntB 64 s.data.toList = .ok n by rw [← hs]; exact dec3_parse h0 h1)
  have hB := Lib.hid (show inB n (-1000000000) 1000000000 = true from inB_true.2 ⟨by omega, by omega⟩)
  clear hT hs
  go_enter Tryd.func27, Tryd.ntmps27
  go_wp2_with fail
  refine (ParseInt_v _ hz.out hP.out).mono ?_; rintro e w1 ⟨rfl, hb1⟩; obtain ⟨chb1, fhb1, shb1, thb1⟩ := bcell hb1
  go_wp2_with fail
  refine (within_any _ _ _ _).mono ?_; rw [hB.out]; rintro e _ ⟨rfl, rfl⟩
  go_wp2_with fail
  refine (Decimal_v _ h0 h1 (hTH.out.below (by exact bel_)) hsH.out).mono ?_; rintro e w2 ⟨rfl, hb2⟩
  go_wp2_with fail
  refine bodyPost_ret (v := .tuple #[.int .i64 n, .bool true]) (by simp only [results, Tryd.results27]; go_simp) rfl ?_
  exact ⟨rfl, by exact bel_⟩
set_option maxRecDepth 100000 in
set_option maxHeartbeats 2000000 in
theorem ReadPoint_v {x y : Int} {s : ByteArray} (w : World) (hT : Tab w) (hv : validPt x y = true) (hs : textB x y = s) :
    Calls Tryd.prog 12 #[.string s] w fun e w' => e = .returned (.tuple #[.agg #[.int .i64 x, .int .i64 y], .bool true]) ∧ Below w.heap.size w w' := by
  obtain ⟨⟨x1, x2⟩, y1, y2⟩ := validPt_iff.1 hv
  have hTH := Lib.hid hT
  have hsH := Lib.hid hs
  have hvH := Lib.hid hv
  have hz := Lib.hid (show s.size ≤ 1000000 by rw [← hs]; have := text_size hv; omega)
  have hC := Lib.hid (show Lib.cut s.data.toList [44] = (dec3 x, dec3 y, true) by rw [← hs]; exact text_cut hv)
  clear hT hs hv
  go_enter Tryd.func12, Tryd.ntmps12
  go_wp2_with fail
  refine (cut_at _ hz.out hC.out).mono ?_; rintro e w1 ⟨rfl, hb1⟩; obtain ⟨chb1, fhb1, shb1, thb1⟩ := bcell hb1
  have sa1 := shb1 w.heap.size (by go_simp)
  go_wp2_with fail
  refine (ReadDecimal_v _ (hTH.out.below (by exact bel_)) x1 x2 rfl).mono ?_; rintro e w2 ⟨rfl, hb2⟩; obtain ⟨chb2, fhb2, shb2, thb2⟩ := bcell hb2
  have sa2 := shb2 w.heap.size sa1
  go_wp2_with fail
  refine (ReadDecimal_v _ (hTH.out.below (by exact bel_)) y1 y2 rfl).mono ?_; rintro e w3 ⟨rfl, hb3⟩; obtain ⟨chb3, fhb3, shb3, thb3⟩ := bcell hb3
  have sa3 := shb3 w.heap.size sa2
  have ne1 : ¬ w.heap.size = w3.heap.size := by omega
  have le1 : w.heap.size ≤ w3.heap.size := by omega
  go_wp2_with fail
  refine (ValidPoint_v _ hvH.out).mono ?_; rintro e w4 ⟨rfl, hb4⟩; obtain ⟨chb4, fhb4, shb4, thb4⟩ := bcell hb4
  have sa4 := shb4 w.heap.size (by simp only [World.size_alloc]; omega)
  have sq4 := shb4 w3.heap.size (by go_simp)
  have q1 : w1.cell? ⟨w.heap.size, 0, none⟩ = some (.int .i64 0) := by go_simp
  have r1 : w1.cell? ⟨w.heap.size, 1, none⟩ = some (.int .i64 0) := by go_simp
  have q2 : w2.cell? ⟨w.heap.size, 0, none⟩ = some (.int .i64 0) := by go_simp
  have r2 : w2.cell? ⟨w.heap.size, 1, none⟩ = some (.int .i64 0) := by go_simp
  have q3 : w3.cell? ⟨w.heap.size, 0, none⟩ = some (.int .i64 0) := by go_simp
  have r3 : w3.cell? ⟨w.heap.size, 1, none⟩ = some (.int .i64 0) := by go_simp
  have q4 : w4.cell? ⟨w.heap.size, 0, none⟩ = some (.int .i64 0) := by go_simp
  have r4 : w4.cell? ⟨w.heap.size, 1, none⟩ = some (.int .i64 0) := by go_simp
  go_wp2_with fail
  refine bodyPost_ret (v := .tuple #[.agg #[.int .i64 x, .int .i64 y], .bool true]) (by simp only [results, Tryd.results12]; go_simp) rfl ?_
  exact ⟨rfl, by exact bel_⟩
end Go.Proofs.YtpfbaeccjppagaaDoor
