/- Walks: the law on points. -/
import Derived.Test.YtpfbaeccjppagaaDoorFP10
import Derived.Test.YtpfbaeccjppagaaDoorOrdFl
namespace Go.Proofs.YtpfbaeccjppagaaDoor
open Go.RowKit
set_option linter.unusedSimpArgs false
set_option linter.unusedVariables false
attribute [local go_sem] BelowBy.cell BelowBy.cell_drew stillUpon givesUpon

theorem dirs {d : Int} (h : inB d 0 3 = true) : d = 0 ∨ d = 1 ∨ d = 2 ∨ d = 3 := by
  have := inB_true.1 h; omega
/-- what is there to know of a step that is one -/
structure Stepped (x y d X Y o : Int) : Prop where
  hp : validPt x y = true
  hq : validPt X Y = true
  hd : inB d 0 3 = true
  ho : inB o 0 3 = true
  opp : (d + 2) % 4 = o
  sx : stepX x d = X
  sy : stepY y d = Y
  bx : stepX X o = x
  b_y : stepY Y o = y
  less : lessPt X Y x y = !lessPt x y X Y
theorem stepped {x y d X Y c : Int} (h : stepRes x y d = (X, Y, c)) : (c = 2 ∧ X = 0 ∧ Y = 0) ∨ (c = 0 ∧ ∃ o, Stepped x y d X Y o) := by
  unfold stepRes at h
  split at h
  · rename_i hok
    obtain ⟨h1, h2, h3⟩ := stepOk_spec hok
    cases h
    refine Or.inr ⟨rfl, (d + 2) % 4, h1, h3, h2, ?_, rfl, rfl, rfl, ?_, ?_, ?_⟩
    · exact inB_true.2 ⟨by omega, by omega⟩
    all_goals
      have e1 : ¬ (y + 1 < y) := by omega
      have e2 : y < y + 1 := by omega
      have e3 : y - 1 < y := by omega
      have e4 : ¬ y < y - 1 := by omega
      have f1 : ¬ (x + 1 < x) := by omega
      have f2 : x < x + 1 := by omega
      have f3 : x - 1 < x := by omega
      have f4 : ¬ x < x - 1 := by omega
      rcases dirs h2 with rfl | rfl | rfl | rfl
      all_goals
        simp [stepX, stepY, lessPt, cmpPt, orI, cmpI, e1, e2, e3, e4, f1, f2, f3, f4]
  · cases h
    exact Or.inl ⟨rfl, rfl, rfl⟩
theorem Stepped.res {x y d X Y o : Int} (h : Stepped x y d X Y o) : stepRes X Y o = (x, y, 0) := by
  unfold stepRes stepOk
  rw [h.hq, h.ho, h.bx, h.b_y, h.hp]
  rfl
theorem dirB_v {x y X Y d : Int} (w : World) (h1 : validPt x y = true) (h3 : validPt X Y = true) (hd : inB d 0 3 = true) (hX : stepX x d = X) (hY : stepY y d = Y) :
    Calls Tryd.prog 11 #[.agg #[.int .i64 x, .int .i64 y], .agg #[.int .i64 X, .int .i64 Y]] w fun e w' => e = .returned (.tuple #[.int .i64 d, .int .i64 0]) ∧ Below w.heap.size w w' := by
  have := inB_true.1 hd
  obtain ⟨k, rfl⟩ : ∃ k : Nat, d = (k : Int) := ⟨d.toNat, by omega⟩
  exact dirB_ok w h1 h3 (by omega) hX hY
theorem LessPoint_v {x y X Y : Int} {v : Bool} (w : World) (h : lessPt x y X Y = v) :
    Calls Tryd.prog 13 #[.agg #[.int .i64 x, .int .i64 y], .agg #[.int .i64 X, .int .i64 Y]] w fun e w' => e = .returned (.bool v) ∧ Below w.heap.size w w' := by
  rw [← h]; exact LessPoint_any _ _ _ _ _
set_option maxRecDepth 100000 in
set_option maxHeartbeats 4000000 in
theorem FnPoints_any {n c : Nat} {C : Option Addr} {bs : List Nat} (w : World) (h : RdSl 1 RBy w C n bs) (hT : Tab w) :
    Calls Tryd.prog 3 #[.slice C n c] w fun e w' => e = .returned (.bool true) ∧ Below w.heap.size w w' := by
  have hH := Lib.hid h
  have hTH := Lib.hid hT
  clear h hT
  by_cases hn : 4096 < n
  · have hnH := Lib.hid (show decide (4096 < n) = true from decide_eq_true hn)
    clear hn
    go_enter Tryd.func3, Tryd.ntmps3
    go_wp2_with (go_at_call 4; refine (f6big_at _ hnH.out).mono ?_; rintro e _ ⟨rfl, rfl⟩)
    go_ret
    exact ⟨rfl, bl_refl _⟩
  have hnH := Lib.hid (show decide (4096 < n) = false from decide_eq_false hn)
  have hn2 : n ≤ 1000000 := by omega
  clear hn
  go_enter Tryd.func3, Tryd.ntmps3
  go_wp2_with fail
  refine (f6big_at _ hnH.out).mono ?_; rintro e _ ⟨rfl, rfl⟩
  go_wp2_with fail
  refine (DrawStepPoint_any hH.out hn2).mono ?_; rintro e w1 ⟨x, y, d, rfl, hd1, hd2, hb1⟩
  obtain ⟨⟨X, Y, cc⟩, hres⟩ : ∃ r, stepRes x y d = r := ⟨_, rfl⟩
  have hresH := Lib.hid hres
  have hcase := Lib.hid (stepped hres)
  have bw1 := hb1.size
  have hb1H := Lib.hid hb1
  clear hres hd1 hd2 hb1
  go_wp2_with fail
  refine (iStep_v _ hresH.out).mono ?_; rintro e w2 ⟨rfl, hb2⟩
  have hk2 := Lib.hid (show Below w1.heap.size w1 w2 from by exact bel_)
  obtain ⟨chb2, fhb2, shb2, thb2⟩ := bcell hb2
  have s3 := shb2 w1.heap.size (by go_simp)
  have gw2a0 : w2.cell? ⟨w1.heap.size, 0, none⟩ = some (.int .i64 x) := by go_simp
  have gw2a1 : w2.cell? ⟨w1.heap.size, 1, none⟩ = some (.int .i64 y) := by go_simp
  clear chb2 fhb2 shb2 thb2 hb2
  have n35 : ¬ w1.heap.size = w2.heap.size := by omega
  go_wp2_with fail
  refine (lStep_v _ hresH.out).mono ?_; rintro e w3 ⟨rfl, hb3⟩
  have hk3 := Lib.hid (show Below w1.heap.size w1 w3 from hk2.out.trans (Below.mono (by exact bel_) (Nat.le_of_lt s3)))
  obtain ⟨chb3, fhb3, shb3, thb3⟩ := bcell hb3
  have s33 := shb3 w1.heap.size (by simp only [World.size_alloc]; omega)
  have s5 := shb3 w2.heap.size (by go_simp)
  have gw3a0 : w3.cell? ⟨w1.heap.size, 0, none⟩ = some (.int .i64 x) := by go_simp
  have gw3a1 : w3.cell? ⟨w1.heap.size, 1, none⟩ = some (.int .i64 y) := by go_simp
  have gw3b0 : w3.cell? ⟨w2.heap.size, 0, none⟩ = some (.int .i64 X) := by go_simp
  have gw3b1 : w3.cell? ⟨w2.heap.size, 1, none⟩ = some (.int .i64 Y) := by go_simp
  clear chb3 fhb3 shb3 thb3 hb3 gw2a0 gw2a1
  have n37 : ¬ w1.heap.size = w3.heap.size := by omega
  have n57 : ¬ w2.heap.size = w3.heap.size := by omega
  have z3 : w1.heap.size < w3.heap.size + 1 := by omega
  have z5 : w2.heap.size < w3.heap.size + 1 := by omega
  go_wp2_with fail
  obtain ⟨txt, htxt⟩ : ∃ s, textB x y = s := ⟨_, rfl⟩
  have htxtH := Lib.hid htxt
  clear htxt
  have hTb := Lib.hid (hTH.out.below hb1H.out)
  
  refine wp_region_ord [(0, .q), (1, .q), (2, .q), (3, .q), (4, .q), (5, .q), (6, .q), (7, .q), (8, .q), (9, .q), (11, .q), (10, .g), (12, .g), (13, .q), (14, .q)] (by kernel_rfl) (by kernel_rfl) ?_
  simp only [pick, List.filterMap_cons, List.filterMap_nil, List.getElem?_toArray, List.getElem?_cons_zero, List.getElem?_cons_succ, Option.map_some]
  repeat (first
    | ((with_reducible refine wpD_p (fun K hK => ?_)); go_simp; refine hK _ ?_; clear hK K)
    | ((with_reducible refine wpD_q (fun K hK => ?_)); go_simp; (first | refine hK _ ?_ | (go_bits; refine hK _ ?_) | (go_bits; go_simp; refine hK _ ?_)); clear hK K)
    | ((with_reducible refine wpD_g (fun K hK => ?_)); go_simp; refine hK _ _ ?_; clear hK K)
    | ((with_reducible refine wpD_g (fun K hK => ?_)); go_simp; refine ⟨Grew.of_alloc _, hK _ _ ?_⟩; clear hK K)
    | ((with_reducible refine wpD_g (fun K hK => ?_)); go_simp; go_at_call 8; refine (PointText_v _ (hTb.out.below (hk3.out.trans (Below.mono (by exact bel_) (Nat.le_of_lt s33)))) htxtH.out).mono ?_; rintro e w4 ⟨rfl, hb4⟩; refine ⟨_, rfl, hb4, hK _ _ ?_⟩; clear hK K; obtain ⟨chb4, fhb4, shb4, thb4⟩ := bcell hb4; (try have bhb40 := shb4 (w1.heap.size) (by go_simp)); (try have bhb41 := shb4 (w2.heap.size) (by go_simp)); (try have bhb42 := shb4 (w3.heap.size) (by go_simp)))
    | ((with_reducible refine wpD_g (fun K hK => ?_)); go_simp; go_at_call 9; refine (lPointText_v _ htxtH.out).mono ?_; rintro e w5 ⟨rfl, hb5⟩; refine ⟨_, rfl, hb5, hK _ _ ?_⟩; clear hK K; obtain ⟨chb5, fhb5, shb5, thb5⟩ := bcell hb5; (try have bhb50 := shb5 (w1.heap.size) (by go_simp)); (try have bhb51 := shb5 (w2.heap.size) (by go_simp)); (try have bhb52 := shb5 (w3.heap.size) (by go_simp))))
  
  with_reducible refine wpD_nil ?_
  have hk5 := Lib.hid (show Below w1.heap.size w1 w5 from hk3.out.trans (Below.mono (by exact bel_) (Nat.le_of_lt s33)))
  have gw5a0 : w5.cell? ⟨w1.heap.size, 0, none⟩ = some (.int .i64 x) := by go_simp
  have gw5a1 : w5.cell? ⟨w1.heap.size, 1, none⟩ = some (.int .i64 y) := by go_simp
  have gw5b0 : w5.cell? ⟨w2.heap.size, 0, none⟩ = some (.int .i64 X) := by go_simp
  have gw5b1 : w5.cell? ⟨w2.heap.size, 1, none⟩ = some (.int .i64 Y) := by go_simp
  have gw5c0 : w5.cell? ⟨w3.heap.size, 0, none⟩ = some (.int .i64 X) := by go_simp
  have gw5c1 : w5.cell? ⟨w3.heap.size, 1, none⟩ = some (.int .i64 Y) := by go_simp
  have t3 : w1.heap.size < w5.heap.size := by assumption
  have t5 : w2.heap.size < w5.heap.size := by assumption
  have t7 : w3.heap.size < w5.heap.size := by assumption
  clear chb4 fhb4 shb4 thb4 hb4 chb5 fhb5 shb5 thb5 hb5 gw3a0 gw3a1 gw3b0 gw3b1
  rcases hcase.out with ⟨rfl, rfl, rfl⟩ | ⟨rfl, o, hS⟩
  · go_wp2
    refine bodyPost_ret (v := .bool true) (by simp only [results, Tryd.results3]; go_simp) rfl ?_
    exact ⟨rfl, hb1H.out.trans (hk5.out.mono bw1)⟩
  have hSH := Lib.hid hS
  clear hS hcase t5 gw5b0 gw5b1 n35 n57 z5
  go_wp2_with fail
  refine wp_region_fl 7 [(0, .q), (1, .q), (2, .g), (3, .g), (4, .q), (5, .q), (6, .p)] [(8, .b), (9, .q)] _ (Obj.cells #[.int .i64 0, .int .i64 0] 25) (by kernel_rfl) (by kernel_rfl) (by kernel_rfl) (by kernel_rfl) rfl (fun a w => ⟨rfl, by unfold flPtr; go_simp⟩) ?_
  simp only [pick, List.filterMap_cons, List.filterMap_nil, List.getElem?_toArray, List.getElem?_cons_zero, List.getElem?_cons_succ, Option.map_some]
  repeat (first | ((with_reducible refine wpL_p (fun K hK => ?_)); go_simp; refine hK _ ?_; clear hK K) | ((with_reducible refine wpL_q (fun K hK => ?_)); go_simp; (first | refine hK _ ?_ | (go_bits; refine hK _ ?_) | (go_bits; go_simp; refine hK _ ?_)); clear hK K))
  with_reducible refine wpL_g rfl (fun K hK st4 u6 mv4 => ?_)
  have hu4 := mv4.below
  have fu4 := (FlAt.none (Obj.cells #[.int .i64 0, .int .i64 0] 25) (World.drew _)).mv mv4
  clear mv4
  go_simp
  refine (Opposite_v _ hSH.out.hd hSH.out.opp).mono ?_; rintro e _ ⟨rfl, rfl⟩
  refine ⟨_, rfl, Below.refl _ _, hK _ _ _ ?_⟩
  clear hK K
  repeat (first | ((with_reducible refine wpL_p (fun K hK => ?_)); go_simp; refine hK _ ?_; clear hK K) | ((with_reducible refine wpL_q (fun K hK => ?_)); go_simp; (first | refine hK _ ?_ | (go_bits; refine hK _ ?_) | (go_bits; go_simp; refine hK _ ?_)); clear hK K))
  with_reducible refine wpL_g rfl (fun K hK st5 u7 mv5 => ?_)
  have hu5 := mv5.below
  have fu5 := fu4.mv mv5
  clear mv5
  go_simp
  refine (iStep_v _ hSH.out.res).mono ?_; rintro e w6 ⟨rfl, hb6⟩
  refine ⟨_, rfl, hb6, hK _ _ _ ?_⟩
  clear hK K
  have fd6 := fu5.below hb6
  repeat (first | ((with_reducible refine wpL_p (fun K hK => ?_)); go_simp; refine hK _ ?_; clear hK K) | ((with_reducible refine wpL_q (fun K hK => ?_)); go_simp; (first | refine hK _ ?_ | (go_bits; refine hK _ ?_) | (go_bits; go_simp; refine hK _ ?_)); clear hK K))
  with_reducible refine wpL_nil (fun b9 w7 mvF => ?_)
  have huF := mvF.below
  obtain ⟨fl9, fb9⟩ := (fd6.mv mvF).2 _ rfl
  clear mvF
  simp only [World.size_drew] at fl9
  have hk57 := Lib.hid (show Below w5.heap.size w5 w7 from (((Below.refl _ w5).drew.trans (hu4.mono (Nat.le_refl _))).trans (hu5.mono hu4.size)).trans ((hb6.mono (Nat.le_trans hu4.size hu5.size)).trans (huF.mono (Nat.le_trans (Nat.le_trans hu4.size hu5.size) hb6.size))))
  obtain ⟨ck7, fk7, sk7, tk7⟩ := bcell hk57.out
  have t37 := sk7 w1.heap.size t3
  have t77 := sk7 w3.heap.size t7
  have gw7a0 : w7.cell? ⟨w1.heap.size, 0, none⟩ = some (.int .i64 x) := by go_simp
  have gw7a1 : w7.cell? ⟨w1.heap.size, 1, none⟩ = some (.int .i64 y) := by go_simp
  have gw7c0 : w7.cell? ⟨w3.heap.size, 0, none⟩ = some (.int .i64 X) := by go_simp
  have gw7c1 : w7.cell? ⟨w3.heap.size, 1, none⟩ = some (.int .i64 Y) := by go_simp
  have rF : w7.rowIs b9 25 2 (fun i => (#[.int .i64 0, .int .i64 0] : Array Value).getD i undef) := ⟨_, fb9, rfl, fun i hi => by simp [hi]⟩
  have yF0 := rF.cell (i := 0) (by decide)
  have yF1 := rF.cell (i := 1) (by decide)
  have kF0 := rF.frozen 0
  have kF1 := rF.frozen 1
  have rFH := Lib.hid rF
  have t97 : b9 < w7.heap.size := (Array.getElem?_eq_some_iff.1 fb9).1
  have n39 : ¬ w1.heap.size = b9 := by omega
  have n79 : ¬ w3.heap.size = b9 := by omega
  have z39 : w1.heap.size ≤ b9 := by omega
  clear rF fb9 fd6 fu5 fu4 hu4 hu5 huF hb6 ck7 fk7 sk7 tk7
  clear gw5a0 gw5a1 gw5c0 gw5c1
  simp only [flPtr]
  with_reducible refine wpD_b (fun K hK => ?_)
  go_simp
  refine hK _ _ ?_
  clear hK K
  repeat (first | ((with_reducible refine wpD_p (fun K hK => ?_)); go_simp; refine hK _ ?_; clear hK K) | ((with_reducible refine wpD_q (fun K hK => ?_)); go_simp; (first | refine hK _ ?_ | (go_bits; refine hK _ ?_) | (go_bits; go_simp; refine hK _ ?_)); clear hK K))
  with_reducible refine wpD_nil ?_
  have hk8 := Lib.hid (show Below w1.heap.size w1 ((w7.setCell ⟨b9, 0, none⟩ (.int .i64 x)).setCell ⟨b9, 1, none⟩ (.int .i64 y)) from ((hk5.out.trans (hk57.out.mono (Nat.le_of_lt t3))).setCell (p := ⟨b9, 0, none⟩) z39 _).setCell (p := ⟨b9, 1, none⟩) z39 _)
  have rF8 := (rFH.out.set 0 (.int .i64 x)).set 1 (.int .i64 y)
  have gw8a0 : ((w7.setCell ⟨b9, 0, none⟩ (.int .i64 x)).setCell ⟨b9, 1, none⟩ (.int .i64 y)).cell? ⟨w1.heap.size, 0, none⟩ = some (.int .i64 x) := by go_simp
  have gw8a1 : ((w7.setCell ⟨b9, 0, none⟩ (.int .i64 x)).setCell ⟨b9, 1, none⟩ (.int .i64 y)).cell? ⟨w1.heap.size, 1, none⟩ = some (.int .i64 y) := by go_simp
  have gw8c0 : ((w7.setCell ⟨b9, 0, none⟩ (.int .i64 x)).setCell ⟨b9, 1, none⟩ (.int .i64 y)).cell? ⟨w3.heap.size, 0, none⟩ = some (.int .i64 X) := by go_simp
  have gw8c1 : ((w7.setCell ⟨b9, 0, none⟩ (.int .i64 x)).setCell ⟨b9, 1, none⟩ (.int .i64 y)).cell? ⟨w3.heap.size, 1, none⟩ = some (.int .i64 Y) := by go_simp
  have gw8n0 : ((w7.setCell ⟨b9, 0, none⟩ (.int .i64 x)).setCell ⟨b9, 1, none⟩ (.int .i64 y)).cell? ⟨b9, 0, none⟩ = some (.int .i64 x) := rF8.cell (i := 0) (by decide)
  have gw8n1 : ((w7.setCell ⟨b9, 0, none⟩ (.int .i64 x)).setCell ⟨b9, 1, none⟩ (.int .i64 y)).cell? ⟨b9, 1, none⟩ = some (.int .i64 y) := rF8.cell (i := 1) (by decide)
  have t38 : w1.heap.size < ((w7.setCell ⟨b9, 0, none⟩ (.int .i64 x)).setCell ⟨b9, 1, none⟩ (.int .i64 y)).heap.size := by simpa using t37
  have t78 : w3.heap.size < ((w7.setCell ⟨b9, 0, none⟩ (.int .i64 x)).setCell ⟨b9, 1, none⟩ (.int .i64 y)).heap.size := by simpa using t77
  have t98 : b9 < ((w7.setCell ⟨b9, 0, none⟩ (.int .i64 x)).setCell ⟨b9, 1, none⟩ (.int .i64 y)).heap.size := by simpa using t97
  clear rF8 rFH yF0 yF1 kF0 kF1 gw7a0 gw7a1 gw7c0 gw7c1 t37 t77 t97 t3 t7 fl9 s33 s3 s5 z3
  generalize ((w7.setCell ⟨b9, 0, none⟩ (.int .i64 x)).setCell ⟨b9, 1, none⟩ (.int .i64 y)) = w8 at *
  go_wp2_with fail
  refine (dirB_v _ hSH.out.hp hSH.out.hq hSH.out.hd hSH.out.sx hSH.out.sy).mono ?_; rintro e w9 ⟨rfl, hb9⟩
  have hk9 := Lib.hid (hk8.out.trans (Below.mono hb9 (Nat.le_of_lt t38)))
  obtain ⟨ck9, fk9, sk9, tk9⟩ := bcell hb9
  have t39 := sk9 _ t38
  have t79 := sk9 _ t78
  have t99 := sk9 _ t98
  have gw9a0 : w9.cell? ⟨w1.heap.size, 0, none⟩ = some (.int .i64 x) := by go_simp
  have gw9a1 : w9.cell? ⟨w1.heap.size, 1, none⟩ = some (.int .i64 y) := by go_simp
  have gw9c0 : w9.cell? ⟨w3.heap.size, 0, none⟩ = some (.int .i64 X) := by go_simp
  have gw9c1 : w9.cell? ⟨w3.heap.size, 1, none⟩ = some (.int .i64 Y) := by go_simp
  have gw9n0 : w9.cell? ⟨b9, 0, none⟩ = some (.int .i64 x) := by go_simp
  have gw9n1 : w9.cell? ⟨b9, 1, none⟩ = some (.int .i64 y) := by go_simp
  clear ck9 fk9 sk9 tk9 hb9 gw8a0 gw8a1 gw8c0 gw8c1 gw8n0 gw8n1 t38 t78 t98
  go_wp2_with fail
  refine (dirB_v _ hSH.out.hq hSH.out.hp hSH.out.ho hSH.out.bx hSH.out.b_y).mono ?_; rintro e w10 ⟨rfl, hb10⟩
  have hk10 := Lib.hid (hk9.out.trans (Below.mono hb10 (Nat.le_of_lt t39)))
  obtain ⟨ck10, fk10, sk10, tk10⟩ := bcell hb10
  have t310 := sk10 _ t39
  have t710 := sk10 _ t79
  have t910 := sk10 _ t99
  have gw10a0 : w10.cell? ⟨w1.heap.size, 0, none⟩ = some (.int .i64 x) := by go_simp
  have gw10a1 : w10.cell? ⟨w1.heap.size, 1, none⟩ = some (.int .i64 y) := by go_simp
  have gw10c0 : w10.cell? ⟨w3.heap.size, 0, none⟩ = some (.int .i64 X) := by go_simp
  have gw10c1 : w10.cell? ⟨w3.heap.size, 1, none⟩ = some (.int .i64 Y) := by go_simp
  have gw10n0 : w10.cell? ⟨b9, 0, none⟩ = some (.int .i64 x) := by go_simp
  have gw10n1 : w10.cell? ⟨b9, 1, none⟩ = some (.int .i64 y) := by go_simp
  clear ck10 fk10 sk10 tk10 hb10 gw9a0 gw9a1 gw9c0 gw9c1 gw9n0 gw9n1 t39 t79 t99
  go_wp2_with fail
  refine (PointText_v _ (hTb.out.below hk10.out) htxtH.out).mono ?_; rintro e w11 ⟨rfl, hb11⟩
  have hk11 := Lib.hid (hk10.out.trans (Below.mono hb11 (Nat.le_of_lt t310)))
  obtain ⟨ck11, fk11, sk11, tk11⟩ := bcell hb11
  have t311 := sk11 _ t310
  have t711 := sk11 _ t710
  have t911 := sk11 _ t910
  have gw11a0 : w11.cell? ⟨w1.heap.size, 0, none⟩ = some (.int .i64 x) := by go_simp
  have gw11a1 : w11.cell? ⟨w1.heap.size, 1, none⟩ = some (.int .i64 y) := by go_simp
  have gw11c0 : w11.cell? ⟨w3.heap.size, 0, none⟩ = some (.int .i64 X) := by go_simp
  have gw11c1 : w11.cell? ⟨w3.heap.size, 1, none⟩ = some (.int .i64 Y) := by go_simp
  have gw11n0 : w11.cell? ⟨b9, 0, none⟩ = some (.int .i64 x) := by go_simp
  have gw11n1 : w11.cell? ⟨b9, 1, none⟩ = some (.int .i64 y) := by go_simp
  clear ck11 fk11 sk11 tk11 hb11 gw10a0 gw10a1 gw10c0 gw10c1 gw10n0 gw10n1 t310 t710 t910
  go_wp2_with fail
  refine (ReadPoint_v _ (hTb.out.below hk11.out) hSH.out.hp htxtH.out).mono ?_; rintro e w12 ⟨rfl, hb12⟩
  have hk12 := Lib.hid (hk11.out.trans (Below.mono hb12 (Nat.le_of_lt t311)))
  obtain ⟨ck12, fk12, sk12, tk12⟩ := bcell hb12
  have t312 := sk12 _ t311
  have t712 := sk12 _ t711
  have t912 := sk12 _ t911
  have gw12a0 : w12.cell? ⟨w1.heap.size, 0, none⟩ = some (.int .i64 x) := by go_simp
  have gw12a1 : w12.cell? ⟨w1.heap.size, 1, none⟩ = some (.int .i64 y) := by go_simp
  have gw12c0 : w12.cell? ⟨w3.heap.size, 0, none⟩ = some (.int .i64 X) := by go_simp
  have gw12c1 : w12.cell? ⟨w3.heap.size, 1, none⟩ = some (.int .i64 Y) := by go_simp
  have gw12n0 : w12.cell? ⟨b9, 0, none⟩ = some (.int .i64 x) := by go_simp
  have gw12n1 : w12.cell? ⟨b9, 1, none⟩ = some (.int .i64 y) := by go_simp
  clear ck12 fk12 sk12 tk12 hb12 gw11a0 gw11a1 gw11c0 gw11c1 gw11n0 gw11n1 t311 t711 t911
  have m3 : ¬ w1.heap.size = w12.heap.size := by omega
  have m7 : ¬ w3.heap.size = w12.heap.size := by omega
  have m9 : ¬ b9 = w12.heap.size := by omega
  have p3 : w1.heap.size < w12.heap.size + 1 := by omega
  have p7 : w3.heap.size < w12.heap.size + 1 := by omega
  have p9 : b9 < w12.heap.size + 1 := by omega
  go_wp2_with fail
  obtain ⟨v, hv⟩ : ∃ v, lessPt x y X Y = v := ⟨_, rfl⟩
  have hv1 := Lib.hid hv
  have hv2 := Lib.hid (show lessPt X Y x y = !v by rw [hSH.out.less, hv])
  clear hv
  have hk13 := Lib.hid (show Below w1.heap.size w1 (w12.alloc (.cells #[.int .i64 x, .int .i64 y] 25)) from hk12.out.alloc (Nat.le_of_lt t312) _)
  
  refine wp_region_ord [(0, .q), (1, .q), (2, .q), (3, .q), (4, .q), (5, .q), (6, .q), (7, .q), (8, .q), (9, .q), (10, .q), (11, .q), (12, .q), (13, .q), (14, .q), (15, .q), (16, .q), (17, .q), (18, .q), (19, .q), (20, .q), (21, .q), (22, .q), (23, .g), (24, .q), (25, .q), (26, .q), (27, .q), (28, .q), (29, .q), (30, .q), (31, .q), (32, .q), (33, .q), (34, .q), (35, .q), (36, .q), (38, .q), (39, .q), (37, .g), (40, .g), (41, .q), (42, .q), (43, .q)] (by kernel_rfl) (by kernel_rfl) ?_
  simp only [pick, List.filterMap_cons, List.filterMap_nil, List.getElem?_toArray, List.getElem?_cons_zero, List.getElem?_cons_succ, Option.map_some]
  repeat (first
    | ((with_reducible refine wpD_p (fun K hK => ?_)); go_simp; refine hK _ ?_; clear hK K)
    | ((with_reducible refine wpD_q (fun K hK => ?_)); go_simp; (first | refine hK _ ?_ | (go_bits; refine hK _ ?_) | (go_bits; go_simp; refine hK _ ?_)); clear hK K)
    | ((with_reducible refine wpD_g (fun K hK => ?_)); go_simp; refine hK _ _ ?_; clear hK K)
    | ((with_reducible refine wpD_g (fun K hK => ?_)); go_simp; refine ⟨Grew.of_alloc _, hK _ _ ?_⟩; clear hK K)
    | ((with_reducible refine wpD_g (fun K hK => ?_)); go_simp; go_at_call 10; refine (Opposite_v _ hSH.out.hd hSH.out.opp).mono ?_; rintro e _ ⟨rfl, rfl⟩; refine ⟨_, rfl, Below.refl _ _, hK _ _ ?_⟩; clear hK K)
    | ((with_reducible refine wpD_g (fun K hK => ?_)); go_simp; go_at_call 13; refine (LessPoint_v _ (by first | exact hv1.out | exact hv2.out)).mono ?_; rintro e w13 ⟨rfl, hb13⟩; refine ⟨_, rfl, hb13, hK _ _ ?_⟩; clear hK K; obtain ⟨chb13, fhb13, shb13, thb13⟩ := bcell hb13; (try have bhb130 := shb13 (w1.heap.size) (by go_simp)); (try have bhb131 := shb13 (w3.heap.size) (by go_simp))))
  
  with_reducible refine wpD_nil ?_
  go_wp2
  refine bodyPost_ret (v := .bool true) (by simp only [results, Tryd.results3]; go_simp) rfl ?_
  refine ⟨rfl, ?_⟩
  exact hb1H.out.trans ((hk13.out.trans (Below.mono (by exact bel_) (by simp only [World.size_alloc]; omega))).mono bw1)
end Go.Proofs.YtpfbaeccjppagaaDoor
