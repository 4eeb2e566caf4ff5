/- Walks: the program's place of a cell, glue on a side, meeting of two cells. -/
import Derived.Test.YtbipnnjkddffbaaSg10
namespace Go.Proofs.Ytbipnnjkddffbaa
open Go.RowKit
set_option linter.unusedSimpArgs false
set_option linter.unusedVariables false
attribute [local go_sem] BelowBy.cell BelowBy.cell_drew stillUpon givesUpon

theorem at_any (G T C : Option Addr) (n cg m ct q cc : Nat) (tp : Int) (gs : List Gl) (ts : List Sti) (cs : List Sc) (x y : Int) (w : World) (hC : RdSl 6 RSc w C q cs) (hV : CellsV gs ts cs) :
    Calls Try.prog 78 #[.agg #[.slice G n cg, .slice T m ct, .int .i64 tp, .slice C q cc], .agg #[.int .i64 x, .int .i64 y]] w fun e w' => e = .returned (.int .i64 (placeI (plsOf cs) x y)) ∧ Below w.heap.size w w' := by
  have hCH := Lib.hid hC
  clear hC
  go_enter Try.func78, Try.ntmps78
  go_wp2_with fail
  refine (BinarySearchC_any _ _ _ gs ts cs _ _ _ (hCH.out.below RSc.stable (by exact bel_)) hV).mono ?_
  rintro e w1 ⟨r, b, rfl, ⟨hp, _⟩, hb1⟩
  cases b
  · go_wp2
    go_ret
    exact ⟨ret_int hp, by exact bel_⟩
  · go_wp2
    go_ret
    exact ⟨ret_int hp, by exact bel_⟩
theorem at_at {G T C : Option Addr} {n cg m ct q cc : Nat} {tp : Int} {gs : List Gl} {ts : List Sti} {cs : List Sc} {x y r : Int} {w : World} (hC : RdSl 6 RSc w C q cs) (hV : CellsV gs ts cs) (h : placeI (plsOf cs) x y = r) :
    Calls Try.prog 78 #[.agg #[.slice G n cg, .slice T m ct, .int .i64 tp, .slice C q cc], .agg #[.int .i64 x, .int .i64 y]] w fun e w' => e = .returned (.int .i64 r) ∧ Below w.heap.size w w' := by
  rw [← h]; exact at_any _ _ _ _ _ _ _ _ _ _ gs ts cs _ _ _ hC hV
/-- the tile of a cell -/
structure TileOf (gs : List Gl) (ts : List Sti) (t : Nat) (e : Sti) : Prop where
  get : ts[t]? = some e
  four : e.sides.length = 4
set_option maxHeartbeats 1000000 in
theorem glue_at {G T C O B F : Option Addr} {n cg m ct q cc on oc bn bc fn fc : Nat} {tp x y v : Int} {t d : Nat} {gs : List Gl} {ts : List Sti} {e : Sti} {w : World} (hT : RdSl 4 RSti w T m ts) (he : TileOf gs ts t e) (hd : d < 4) (h : glueC ts t d = v) :
    Calls Try.prog 128 #[.agg #[.slice G n cg, .slice T m ct, .int .i64 tp, .slice C q cc], .agg #[.int .i64 x, .int .i64 y, .int .i64 t, .slice O on oc, .slice B bn bc, .slice F fn fc], .int .i64 d] w fun e w' => e = .returned (.int .i64 v) ∧ Below w.heap.size w w' := by
  obtain ⟨he, h4⟩ := he
  have htm : t < m := by rw [← hT.len]; exact lt_of_get he
  obtain ⟨b, o, rfl, hb, hc⟩ := hT.ptr (by omega)
  obtain ⟨_, ⟨SA, sn, sc, c1, hS⟩, _⟩ := hc t e he
  have hsn := hS.len
  have hsn : sn = 4 := by omega
  subst hsn
  obtain ⟨bs, os, rfl, hbs, hcs⟩ := hS.ptr (by omega)
  obtain ⟨u, hu⟩ := hS.get hd
  have cu := hcs d u hu
  unfold RInt at cu
  simp only [Nat.mul_one] at cu
  rw [glueC_eq he hu] at h
  subst h
  have hdI : (d : Int) < 4 := by omega
  clear hc hcs hS hT he hu hsn
  go_enter Try.func128, Try.ntmps128
  go_wp2
  go_ret
  exact ⟨rfl, by exact bel_⟩
/-- the lists of a cell read -/
structure ScRd (w : World) (O B F : Option Addr) (fn : Nat) (c : Sc) : Prop where
  on : RdSl 1 RBool w O 4 c.on
  bound : RdSl 1 RBool w B 4 c.bound
  fired : RdSl 1 RBool w F fn c.fired
theorem ScRd.below {w w' : World} {O B F : Option Addr} {fn : Nat} {c : Sc} (h : ScRd w O B F fn c) (hb : Below w.heap.size w w') : ScRd w' O B F fn c := ⟨h.on.below RBool.stable hb, h.bound.below RBool.stable hb, h.fired.below RBool.stable hb⟩
theorem opp_lt {d : Nat} (h : d < 4) : oppN d < 4 := by unfold oppN; split <;> omega
theorem stepX_in {x : Int} {d : Nat} : True := trivial
set_option maxRecDepth 100000 in
set_option maxHeartbeats 4000000 in
theorem meets_any (G T C O B F : Option Addr) (n cg m ct q cc oc bc fn fc : Nat) (tp : Int) (gs : List Gl) (ts : List Sti) (cs : List Sc) (c : Sc) (i d : Nat) (w : World) (hT : RdSl 4 RSti w T m ts) (hC : RdSl 6 RSc w C q cs) (hV : CellsV gs ts cs) (hi : cs[i]? = some c) (hc : RdSl 1 RBool w O 4 c.on) (hd : d < 4) (b : Bool) (hb : meetB ts cs c d = b) :
    Calls Try.prog 77 #[.agg #[.slice G n cg, .slice T m ct, .int .i64 tp, .slice C q cc], .agg #[.int .i64 c.x, .int .i64 c.y, .int .i64 c.t, .slice O 4 oc, .slice B 4 bc, .slice F fn fc], .int .i64 d] w fun e w' => e = .returned (.bool b) ∧ Below w.heap.size w w' := by
  obtain ⟨⟨hx1, hx2⟩, hy1, hy2⟩ := hV.V.pt i (scPl c) (plsOf_get hi)
  obtain ⟨_, _, t, e, hct, het, _⟩ := hV.cell i c hi
  have hE := Lib.hid (show TileOf gs ts t e from ⟨het, (hV.tile t e het).1⟩)
  obtain ⟨bo, oo, rfl, hbo, hco⟩ := hc.ptr (by omega)
  obtain ⟨von, hvon⟩ := hc.get hd
  have con := hco d von hvon
  unfold RBool at con
  simp only [Nat.mul_one] at con
  have hon := Lib.hid (onAt_eq hvon)
  have hTH := Lib.hid hT
  have hCH := Lib.hid hC
  have hVH := Lib.hid hV
  have hbH := Lib.hid hb
  have hdI : (d : Int) < 4 := by omega
  simp only [scPl] at hx1 hx2 hy1 hy2
  obtain ⟨cx, hcx⟩ : ∃ cx, c.x = cx := ⟨_, rfl⟩
  obtain ⟨cy, hcy⟩ : ∃ cy, c.y = cy := ⟨_, rfl⟩
  have hnx := Lib.hid (show nextC cs c d = cellAt cs (stepX cx d) (stepY cy d) by unfold nextC; rw [hcx, hcy])
  rw [hcx] at hx1 hx2 ⊢
  rw [hcy] at hy1 hy2 ⊢
  rw [hct]
  have hctH := Lib.hid hct
  clear hT hC hV hb hct hcx hcy hco hvon hc het
  rcases place_cases hVH.out (stepX cx d) (stepY cy d) with ⟨hp, hn⟩ | ⟨k, nb, hp, hk, hn⟩
  · have hpH := Lib.hid hp
    have hr := Lib.hid (show b = false by rw [← hbH.out, meet_none (hnx.out.trans hn)])
    clear hp hn
    
    go_enter Try.func77, Try.ntmps77
    go_wp2
    refine wp_region_ord [(0, .q), (1, .q), (2, .q), (3, .q), (4, .g), (5, .g), (6, .q)] (by kernel_rfl) (by kernel_rfl) ?_
    simp only [pick, List.filterMap_cons, List.filterMap_nil, List.getElem?_toArray, List.getElem?_cons_zero, List.getElem?_cons_succ, Option.map_some]
    repeat (first
      | ((with_reducible refine wpD_p (fun K hK => ?_)); go_simp; refine hK _ ?_; clear hK K)
      | ((with_reducible refine wpD_q (fun K hK => ?_)); go_simp; (first | refine hK _ ?_ | (go_bits; refine hK _ ?_) | (go_bits; go_simp; refine hK _ ?_)); clear hK K)
      | ((with_reducible refine wpD_g (fun K hK => ?_)); go_simp; refine hK _ _ ?_; clear hK K)
      | ((with_reducible refine wpD_g (fun K hK => ?_)); go_simp; refine ⟨Grew.of_alloc _, hK _ _ ?_⟩; clear hK K)
      | ((with_reducible refine wpD_g (fun K hK => ?_)); go_simp; refine ⟨Below.refl _ _, hK _ _ ?_⟩; clear hK K)
      | ((with_reducible refine wpD_g (fun K hK => ?_)); go_simp; go_at_call 79; refine (step_any _ _ _ _ hd ⟨by omega, by omega⟩ ⟨by omega, by omega⟩).mono ?_; rintro e w1 ⟨rfl, hb1⟩; refine ⟨_, rfl, hb1, hK _ _ ?_⟩; clear hK K; obtain ⟨chb1, fhb1, shb1, thb1⟩ := bcell hb1; (try have bhb10 := shb1 (w.heap.size) (by go_simp)); (try have bhb11 := shb1 (w.heap.size + 1) (by go_simp)))
      | ((with_reducible refine wpD_g (fun K hK => ?_)); go_simp; go_at_call 78; refine (at_at (hCH.out.below RSc.stable (by exact bel_)) hVH.out hpH.out).mono ?_; rintro e w2 ⟨rfl, hb2⟩; refine ⟨_, rfl, hb2, hK _ _ ?_⟩; clear hK K; obtain ⟨chb2, fhb2, shb2, thb2⟩ := bcell hb2; (try have bhb20 := shb2 (w.heap.size) (by go_simp)); (try have bhb21 := shb2 (w.heap.size + 1) (by go_simp))))
    with_reducible refine wpD_nil ?_
    go_wp2
    go_ret
    exact ⟨ret_bool hr.out.symm, by exact bel_⟩
  obtain ⟨bc2, oc2, rfl, hbc, hcc⟩ := hCH.out.ptr (by have := hCH.out.len; have := lt_of_get hk; omega)
  obtain ⟨n0, n1, n2, ⟨NO, nn, nc, n3, hNO⟩, ⟨NB, nbn, nbc, n4, _⟩, ⟨NF, nfn, nfc, n5, _⟩⟩ := hcc k nb hk
  obtain ⟨hl4, _, t2, e2, hct2, het2, _⟩ := hVH.out.cell k nb hk
  have hE2 := Lib.hid (show TileOf gs ts t2 e2 from ⟨het2, (hVH.out.tile t2 e2 het2).1⟩)
  rw [hNO.len] at hl4
  subst hl4
  obtain ⟨bno, ono, rfl, hbno, hcno⟩ := hNO.ptr (by omega)
  obtain ⟨vn, hvn⟩ := hNO.get (opp_lt hd)
  have cno := hcno (oppN d) vn hvn
  unfold RBool at cno
  simp only [Nat.mul_one] at cno
  have hno := Lib.hid (onAt_eq hvn)
  have hod : ((oppN d : Nat) : Int) < 4 := by have := opp_lt hd; omega
  have hkq : k < q := by rw [← hCH.out.len]; exact lt_of_get hk
  rw [hct2] at n2
  have hm := Lib.hid (meet_some (ts := ts) (hnx.out.trans hn))
  obtain ⟨g1, hg1⟩ : ∃ g1, glueC ts t d = g1 := ⟨_, rfl⟩
  obtain ⟨g2, hg2⟩ : ∃ g2, glueC ts t2 (oppN d) = g2 := ⟨_, rfl⟩
  have hb2 := Lib.hid (show b = (von && (decide (g1 ≠ 0) && (vn && decide (g2 = g1)))) by rw [← hbH.out, hm.out, hon.out, hno.out, hctH.out, hct2, hg1, hg2])
  have hpH := Lib.hid hp
  have hg1 := Lib.hid hg1
  have hg2 := Lib.hid hg2
  clear hp hn hcc hk hct2 het2 hNO hcno hvn hm
  have l1 : bo ≤ w.heap.size := by omega
  have l2 : bc2 ≤ w.heap.size := by omega
  have l3 : bno ≤ w.heap.size := by omega
  have l4 : bo < w.heap.size + 1 + 1 := by omega
  have l5 : bc2 < w.heap.size + 1 + 1 := by omega
  have l6 : bno < w.heap.size + 1 + 1 := by omega
  
  cases von
  · have hr := Lib.hid (show b = false by rw [hb2.out]; rfl)
    go_enter Try.func77, Try.ntmps77
    go_wp2
    refine wp_region_ord [(0, .q), (1, .q), (2, .q), (3, .q), (4, .g), (5, .g), (6, .q)] (by kernel_rfl) (by kernel_rfl) ?_
    simp only [pick, List.filterMap_cons, List.filterMap_nil, List.getElem?_toArray, List.getElem?_cons_zero, List.getElem?_cons_succ, Option.map_some]
    repeat (first
      | ((with_reducible refine wpD_p (fun K hK => ?_)); go_simp; refine hK _ ?_; clear hK K)
      | ((with_reducible refine wpD_q (fun K hK => ?_)); go_simp; (first | refine hK _ ?_ | (go_bits; refine hK _ ?_) | (go_bits; go_simp; refine hK _ ?_)); clear hK K)
      | ((with_reducible refine wpD_g (fun K hK => ?_)); go_simp; refine hK _ _ ?_; clear hK K)
      | ((with_reducible refine wpD_g (fun K hK => ?_)); go_simp; refine ⟨Grew.of_alloc _, hK _ _ ?_⟩; clear hK K)
      | ((with_reducible refine wpD_g (fun K hK => ?_)); go_simp; refine ⟨Below.refl _ _, hK _ _ ?_⟩; clear hK K)
      | ((with_reducible refine wpD_g (fun K hK => ?_)); go_simp; go_at_call 79; refine (step_any _ _ _ _ hd ⟨by omega, by omega⟩ ⟨by omega, by omega⟩).mono ?_; rintro e w1 ⟨rfl, hb1⟩; refine ⟨_, rfl, hb1, hK _ _ ?_⟩; clear hK K; obtain ⟨chb1, fhb1, shb1, thb1⟩ := bcell hb1; (try have bhb10 := shb1 (w.heap.size) (by go_simp)); (try have bhb11 := shb1 (w.heap.size + 1) (by go_simp)); (try have bhb12 := shb1 (bo) (by go_simp)); (try have bhb13 := shb1 (bc2) (by go_simp)); (try have bhb14 := shb1 (bno) (by go_simp)))
      | ((with_reducible refine wpD_g (fun K hK => ?_)); go_simp; go_at_call 78; refine (at_at (hCH.out.below RSc.stable (by exact bel_)) hVH.out hpH.out).mono ?_; rintro e w2 ⟨rfl, hb2⟩; refine ⟨_, rfl, hb2, hK _ _ ?_⟩; clear hK K; obtain ⟨chb2, fhb2, shb2, thb2⟩ := bcell hb2; (try have bhb20 := shb2 (w.heap.size) (by go_simp)); (try have bhb21 := shb2 (w.heap.size + 1) (by go_simp)); (try have bhb22 := shb2 (bo) (by go_simp)); (try have bhb23 := shb2 (bc2) (by go_simp)); (try have bhb24 := shb2 (bno) (by go_simp))))
    with_reducible refine wpD_nil ?_
    go_wp2
    go_ret
    exact ⟨ret_bool hr.out.symm, by exact bel_⟩
  by_cases hz : g1 = 0
  · subst hz
    have hr := Lib.hid (show b = false by rw [hb2.out]; simp)
    go_enter Try.func77, Try.ntmps77
    go_wp2
    refine wp_region_ord [(0, .q), (1, .q), (2, .q), (3, .q), (4, .g), (5, .g), (6, .q)] (by kernel_rfl) (by kernel_rfl) ?_
    simp only [pick, List.filterMap_cons, List.filterMap_nil, List.getElem?_toArray, List.getElem?_cons_zero, List.getElem?_cons_succ, Option.map_some]
    repeat (first
      | ((with_reducible refine wpD_p (fun K hK => ?_)); go_simp; refine hK _ ?_; clear hK K)
      | ((with_reducible refine wpD_q (fun K hK => ?_)); go_simp; (first | refine hK _ ?_ | (go_bits; refine hK _ ?_) | (go_bits; go_simp; refine hK _ ?_)); clear hK K)
      | ((with_reducible refine wpD_g (fun K hK => ?_)); go_simp; refine hK _ _ ?_; clear hK K)
      | ((with_reducible refine wpD_g (fun K hK => ?_)); go_simp; refine ⟨Grew.of_alloc _, hK _ _ ?_⟩; clear hK K)
      | ((with_reducible refine wpD_g (fun K hK => ?_)); go_simp; refine ⟨Below.refl _ _, hK _ _ ?_⟩; clear hK K)
      | ((with_reducible refine wpD_g (fun K hK => ?_)); go_simp; go_at_call 79; refine (step_any _ _ _ _ hd ⟨by omega, by omega⟩ ⟨by omega, by omega⟩).mono ?_; rintro e w1 ⟨rfl, hb1⟩; refine ⟨_, rfl, hb1, hK _ _ ?_⟩; clear hK K; obtain ⟨chb1, fhb1, shb1, thb1⟩ := bcell hb1; (try have bhb10 := shb1 (w.heap.size) (by go_simp)); (try have bhb11 := shb1 (w.heap.size + 1) (by go_simp)); (try have bhb12 := shb1 (bo) (by go_simp)); (try have bhb13 := shb1 (bc2) (by go_simp)); (try have bhb14 := shb1 (bno) (by go_simp)))
      | ((with_reducible refine wpD_g (fun K hK => ?_)); go_simp; go_at_call 78; refine (at_at (hCH.out.below RSc.stable (by exact bel_)) hVH.out hpH.out).mono ?_; rintro e w2 ⟨rfl, hb2⟩; refine ⟨_, rfl, hb2, hK _ _ ?_⟩; clear hK K; obtain ⟨chb2, fhb2, shb2, thb2⟩ := bcell hb2; (try have bhb20 := shb2 (w.heap.size) (by go_simp)); (try have bhb21 := shb2 (w.heap.size + 1) (by go_simp)); (try have bhb22 := shb2 (bo) (by go_simp)); (try have bhb23 := shb2 (bc2) (by go_simp)); (try have bhb24 := shb2 (bno) (by go_simp))))
    with_reducible refine wpD_nil ?_
    go_wp2_with (go_at_call 128; refine (glue_at (hTH.out.below RSti.stable (by exact bel_)) hE.out hd hg1.out).mono ?_; rintro e w3 ⟨rfl, hb3⟩; obtain ⟨chb3, fhb3, shb3, thb3⟩ := bcell hb3; (try have bhb30 := shb3 (w.heap.size) (by go_simp)); (try have bhb31 := shb3 (w.heap.size + 1) (by go_simp)); (try have bhb32 := shb3 (bo) (by go_simp)); (try have bhb33 := shb3 (bc2) (by go_simp)); (try have bhb34 := shb3 (bno) (by go_simp)))
    go_wp2
    go_ret
    exact ⟨ret_bool hr.out.symm, by exact bel_⟩
  have hz2 : (g1 == 0) = false := by simpa using hz
  cases vn
  · have hr := Lib.hid (show b = false by rw [hb2.out]; simp)
    go_enter Try.func77, Try.ntmps77
    go_wp2
    refine wp_region_ord [(0, .q), (1, .q), (2, .q), (3, .q), (4, .g), (5, .g), (6, .q)] (by kernel_rfl) (by kernel_rfl) ?_
    simp only [pick, List.filterMap_cons, List.filterMap_nil, List.getElem?_toArray, List.getElem?_cons_zero, List.getElem?_cons_succ, Option.map_some]
    repeat (first
      | ((with_reducible refine wpD_p (fun K hK => ?_)); go_simp; refine hK _ ?_; clear hK K)
      | ((with_reducible refine wpD_q (fun K hK => ?_)); go_simp; (first | refine hK _ ?_ | (go_bits; refine hK _ ?_) | (go_bits; go_simp; refine hK _ ?_)); clear hK K)
      | ((with_reducible refine wpD_g (fun K hK => ?_)); go_simp; refine hK _ _ ?_; clear hK K)
      | ((with_reducible refine wpD_g (fun K hK => ?_)); go_simp; refine ⟨Grew.of_alloc _, hK _ _ ?_⟩; clear hK K)
      | ((with_reducible refine wpD_g (fun K hK => ?_)); go_simp; refine ⟨Below.refl _ _, hK _ _ ?_⟩; clear hK K)
      | ((with_reducible refine wpD_g (fun K hK => ?_)); go_simp; go_at_call 79; refine (step_any _ _ _ _ hd ⟨by omega, by omega⟩ ⟨by omega, by omega⟩).mono ?_; rintro e w1 ⟨rfl, hb1⟩; refine ⟨_, rfl, hb1, hK _ _ ?_⟩; clear hK K; obtain ⟨chb1, fhb1, shb1, thb1⟩ := bcell hb1; (try have bhb10 := shb1 (w.heap.size) (by go_simp)); (try have bhb11 := shb1 (w.heap.size + 1) (by go_simp)); (try have bhb12 := shb1 (bo) (by go_simp)); (try have bhb13 := shb1 (bc2) (by go_simp)); (try have bhb14 := shb1 (bno) (by go_simp)))
      | ((with_reducible refine wpD_g (fun K hK => ?_)); go_simp; go_at_call 78; refine (at_at (hCH.out.below RSc.stable (by exact bel_)) hVH.out hpH.out).mono ?_; rintro e w2 ⟨rfl, hb2⟩; refine ⟨_, rfl, hb2, hK _ _ ?_⟩; clear hK K; obtain ⟨chb2, fhb2, shb2, thb2⟩ := bcell hb2; (try have bhb20 := shb2 (w.heap.size) (by go_simp)); (try have bhb21 := shb2 (w.heap.size + 1) (by go_simp)); (try have bhb22 := shb2 (bo) (by go_simp)); (try have bhb23 := shb2 (bc2) (by go_simp)); (try have bhb24 := shb2 (bno) (by go_simp))))
    with_reducible refine wpD_nil ?_
    go_wp2_with (go_at_call 128; refine (glue_at (hTH.out.below RSti.stable (by exact bel_)) hE.out hd hg1.out).mono ?_; rintro e w3 ⟨rfl, hb3⟩; obtain ⟨chb3, fhb3, shb3, thb3⟩ := bcell hb3; (try have bhb30 := shb3 (w.heap.size) (by go_simp)); (try have bhb31 := shb3 (w.heap.size + 1) (by go_simp)); (try have bhb32 := shb3 (bo) (by go_simp)); (try have bhb33 := shb3 (bc2) (by go_simp)); (try have bhb34 := shb3 (bno) (by go_simp)))
    refine wp_region_ord [(0, .q), (1, .q), (2, .q), (3, .g), (4, .q), (5, .q), (6, .q), (7, .q), (8, .q), (9, .q), (12, .q), (13, .q), (14, .q), (10, .g), (11, .g), (15, .g), (16, .q), (17, .q), (18, .q)] (by kernel_rfl) (by kernel_rfl) ?_
    simp only [pick, List.filterMap_cons, List.filterMap_nil, List.getElem?_toArray, List.getElem?_cons_zero, List.getElem?_cons_succ, Option.map_some]
    repeat (first
      | ((with_reducible refine wpD_p (fun K hK => ?_)); go_simp; refine hK _ ?_; clear hK K)
      | ((with_reducible refine wpD_q (fun K hK => ?_)); go_simp; (first | refine hK _ ?_ | (go_bits; refine hK _ ?_) | (go_bits; go_simp; refine hK _ ?_)); clear hK K)
      | ((with_reducible refine wpD_g (fun K hK => ?_)); go_simp; refine hK _ _ ?_; clear hK K)
      | ((with_reducible refine wpD_g (fun K hK => ?_)); go_simp; refine ⟨Grew.of_alloc _, hK _ _ ?_⟩; clear hK K)
      | ((with_reducible refine wpD_g (fun K hK => ?_)); go_simp; refine ⟨Below.refl _ _, hK _ _ ?_⟩; clear hK K)
      | ((with_reducible refine wpD_g (fun K hK => ?_)); go_simp; go_at_call 80; refine (opposite_any _ _ hd).mono ?_; rintro e _ ⟨rfl, rfl⟩; refine ⟨_, rfl, Below.refl _ _, hK _ _ ?_⟩; clear hK K)
      | ((with_reducible refine wpD_g (fun K hK => ?_)); go_simp; go_at_call 128; refine (glue_at (hTH.out.below RSti.stable (by exact bel_)) (by first | exact hE.out | exact hE2.out) (by first | exact hd | exact opp_lt hd) (by first | exact hg1.out | exact hg2.out)).mono ?_; rintro e w4 ⟨rfl, hb4⟩; refine ⟨_, rfl, hb4, hK _ _ ?_⟩; clear hK K; obtain ⟨chb4, fhb4, shb4, thb4⟩ := bcell hb4; (try have bhb40 := shb4 (w.heap.size) (by go_simp)); (try have bhb41 := shb4 (w.heap.size + 1) (by go_simp)); (try have bhb42 := shb4 (bo) (by go_simp)); (try have bhb43 := shb4 (bc2) (by go_simp)); (try have bhb44 := shb4 (bno) (by go_simp))))
    with_reducible refine wpD_nil ?_
    go_wp2
    go_ret
    exact ⟨ret_bool hr.out.symm, by exact bel_⟩
  by_cases hgg : g2 = g1
  · subst hgg
    have hr := Lib.hid (show b = true by rw [hb2.out]; simp [hz])
    go_enter Try.func77, Try.ntmps77
    go_wp2
    refine wp_region_ord [(0, .q), (1, .q), (2, .q), (3, .q), (4, .g), (5, .g), (6, .q)] (by kernel_rfl) (by kernel_rfl) ?_
    simp only [pick, List.filterMap_cons, List.filterMap_nil, List.getElem?_toArray, List.getElem?_cons_zero, List.getElem?_cons_succ, Option.map_some]
    repeat (first
      | ((with_reducible refine wpD_p (fun K hK => ?_)); go_simp; refine hK _ ?_; clear hK K)
      | ((with_reducible refine wpD_q (fun K hK => ?_)); go_simp; (first | refine hK _ ?_ | (go_bits; refine hK _ ?_) | (go_bits; go_simp; refine hK _ ?_)); clear hK K)
      | ((with_reducible refine wpD_g (fun K hK => ?_)); go_simp; refine hK _ _ ?_; clear hK K)
      | ((with_reducible refine wpD_g (fun K hK => ?_)); go_simp; refine ⟨Grew.of_alloc _, hK _ _ ?_⟩; clear hK K)
      | ((with_reducible refine wpD_g (fun K hK => ?_)); go_simp; refine ⟨Below.refl _ _, hK _ _ ?_⟩; clear hK K)
      | ((with_reducible refine wpD_g (fun K hK => ?_)); go_simp; go_at_call 79; refine (step_any _ _ _ _ hd ⟨by omega, by omega⟩ ⟨by omega, by omega⟩).mono ?_; rintro e w1 ⟨rfl, hb1⟩; refine ⟨_, rfl, hb1, hK _ _ ?_⟩; clear hK K; obtain ⟨chb1, fhb1, shb1, thb1⟩ := bcell hb1; (try have bhb10 := shb1 (w.heap.size) (by go_simp)); (try have bhb11 := shb1 (w.heap.size + 1) (by go_simp)); (try have bhb12 := shb1 (bo) (by go_simp)); (try have bhb13 := shb1 (bc2) (by go_simp)); (try have bhb14 := shb1 (bno) (by go_simp)))
      | ((with_reducible refine wpD_g (fun K hK => ?_)); go_simp; go_at_call 78; refine (at_at (hCH.out.below RSc.stable (by exact bel_)) hVH.out hpH.out).mono ?_; rintro e w2 ⟨rfl, hb2⟩; refine ⟨_, rfl, hb2, hK _ _ ?_⟩; clear hK K; obtain ⟨chb2, fhb2, shb2, thb2⟩ := bcell hb2; (try have bhb20 := shb2 (w.heap.size) (by go_simp)); (try have bhb21 := shb2 (w.heap.size + 1) (by go_simp)); (try have bhb22 := shb2 (bo) (by go_simp)); (try have bhb23 := shb2 (bc2) (by go_simp)); (try have bhb24 := shb2 (bno) (by go_simp))))
    with_reducible refine wpD_nil ?_
    go_wp2_with (go_at_call 128; refine (glue_at (hTH.out.below RSti.stable (by exact bel_)) hE.out hd hg1.out).mono ?_; rintro e w3 ⟨rfl, hb3⟩; obtain ⟨chb3, fhb3, shb3, thb3⟩ := bcell hb3; (try have bhb30 := shb3 (w.heap.size) (by go_simp)); (try have bhb31 := shb3 (w.heap.size + 1) (by go_simp)); (try have bhb32 := shb3 (bo) (by go_simp)); (try have bhb33 := shb3 (bc2) (by go_simp)); (try have bhb34 := shb3 (bno) (by go_simp)))
    refine wp_region_ord [(0, .q), (1, .q), (2, .q), (3, .g), (4, .q), (5, .q), (6, .q), (7, .q), (8, .q), (9, .q), (12, .q), (13, .q), (14, .q), (10, .g), (11, .g), (15, .g), (16, .q), (17, .q), (18, .q)] (by kernel_rfl) (by kernel_rfl) ?_
    simp only [pick, List.filterMap_cons, List.filterMap_nil, List.getElem?_toArray, List.getElem?_cons_zero, List.getElem?_cons_succ, Option.map_some]
    repeat (first
      | ((with_reducible refine wpD_p (fun K hK => ?_)); go_simp; refine hK _ ?_; clear hK K)
      | ((with_reducible refine wpD_q (fun K hK => ?_)); go_simp; (first | refine hK _ ?_ | (go_bits; refine hK _ ?_) | (go_bits; go_simp; refine hK _ ?_)); clear hK K)
      | ((with_reducible refine wpD_g (fun K hK => ?_)); go_simp; refine hK _ _ ?_; clear hK K)
      | ((with_reducible refine wpD_g (fun K hK => ?_)); go_simp; refine ⟨Grew.of_alloc _, hK _ _ ?_⟩; clear hK K)
      | ((with_reducible refine wpD_g (fun K hK => ?_)); go_simp; refine ⟨Below.refl _ _, hK _ _ ?_⟩; clear hK K)
      | ((with_reducible refine wpD_g (fun K hK => ?_)); go_simp; go_at_call 80; refine (opposite_any _ _ hd).mono ?_; rintro e _ ⟨rfl, rfl⟩; refine ⟨_, rfl, Below.refl _ _, hK _ _ ?_⟩; clear hK K)
      | ((with_reducible refine wpD_g (fun K hK => ?_)); go_simp; go_at_call 128; refine (glue_at (hTH.out.below RSti.stable (by exact bel_)) (by first | exact hE.out | exact hE2.out) (by first | exact hd | exact opp_lt hd) (by first | exact hg1.out | exact hg2.out)).mono ?_; rintro e w4 ⟨rfl, hb4⟩; refine ⟨_, rfl, hb4, hK _ _ ?_⟩; clear hK K; obtain ⟨chb4, fhb4, shb4, thb4⟩ := bcell hb4; (try have bhb40 := shb4 (w.heap.size) (by go_simp)); (try have bhb41 := shb4 (w.heap.size + 1) (by go_simp)); (try have bhb42 := shb4 (bo) (by go_simp)); (try have bhb43 := shb4 (bc2) (by go_simp)); (try have bhb44 := shb4 (bno) (by go_simp))))
    with_reducible refine wpD_nil ?_
    go_wp2
    go_ret
    exact ⟨ret_bool hr.out.symm, by exact bel_⟩
  · have hgg2 : (g2 == g1) = false := by simpa using hgg
    have hr := Lib.hid (show b = false by rw [hb2.out]; simp [hgg])
    go_enter Try.func77, Try.ntmps77
    go_wp2
    refine wp_region_ord [(0, .q), (1, .q), (2, .q), (3, .q), (4, .g), (5, .g), (6, .q)] (by kernel_rfl) (by kernel_rfl) ?_
    simp only [pick, List.filterMap_cons, List.filterMap_nil, List.getElem?_toArray, List.getElem?_cons_zero, List.getElem?_cons_succ, Option.map_some]
    repeat (first
      | ((with_reducible refine wpD_p (fun K hK => ?_)); go_simp; refine hK _ ?_; clear hK K)
      | ((with_reducible refine wpD_q (fun K hK => ?_)); go_simp; (first | refine hK _ ?_ | (go_bits; refine hK _ ?_) | (go_bits; go_simp; refine hK _ ?_)); clear hK K)
      | ((with_reducible refine wpD_g (fun K hK => ?_)); go_simp; refine hK _ _ ?_; clear hK K)
      | ((with_reducible refine wpD_g (fun K hK => ?_)); go_simp; refine ⟨Grew.of_alloc _, hK _ _ ?_⟩; clear hK K)
      | ((with_reducible refine wpD_g (fun K hK => ?_)); go_simp; refine ⟨Below.refl _ _, hK _ _ ?_⟩; clear hK K)
      | ((with_reducible refine wpD_g (fun K hK => ?_)); go_simp; go_at_call 79; refine (step_any _ _ _ _ hd ⟨by omega, by omega⟩ ⟨by omega, by omega⟩).mono ?_; rintro e w1 ⟨rfl, hb1⟩; refine ⟨_, rfl, hb1, hK _ _ ?_⟩; clear hK K; obtain ⟨chb1, fhb1, shb1, thb1⟩ := bcell hb1; (try have bhb10 := shb1 (w.heap.size) (by go_simp)); (try have bhb11 := shb1 (w.heap.size + 1) (by go_simp)); (try have bhb12 := shb1 (bo) (by go_simp)); (try have bhb13 := shb1 (bc2) (by go_simp)); (try have bhb14 := shb1 (bno) (by go_simp)))
      | ((with_reducible refine wpD_g (fun K hK => ?_)); go_simp; go_at_call 78; refine (at_at (hCH.out.below RSc.stable (by exact bel_)) hVH.out hpH.out).mono ?_; rintro e w2 ⟨rfl, hb2⟩; refine ⟨_, rfl, hb2, hK _ _ ?_⟩; clear hK K; obtain ⟨chb2, fhb2, shb2, thb2⟩ := bcell hb2; (try have bhb20 := shb2 (w.heap.size) (by go_simp)); (try have bhb21 := shb2 (w.heap.size + 1) (by go_simp)); (try have bhb22 := shb2 (bo) (by go_simp)); (try have bhb23 := shb2 (bc2) (by go_simp)); (try have bhb24 := shb2 (bno) (by go_simp))))
    with_reducible refine wpD_nil ?_
    go_wp2_with (go_at_call 128; refine (glue_at (hTH.out.below RSti.stable (by exact bel_)) hE.out hd hg1.out).mono ?_; rintro e w3 ⟨rfl, hb3⟩; obtain ⟨chb3, fhb3, shb3, thb3⟩ := bcell hb3; (try have bhb30 := shb3 (w.heap.size) (by go_simp)); (try have bhb31 := shb3 (w.heap.size + 1) (by go_simp)); (try have bhb32 := shb3 (bo) (by go_simp)); (try have bhb33 := shb3 (bc2) (by go_simp)); (try have bhb34 := shb3 (bno) (by go_simp)))
    refine wp_region_ord [(0, .q), (1, .q), (2, .q), (3, .g), (4, .q), (5, .q), (6, .q), (7, .q), (8, .q), (9, .q), (12, .q), (13, .q), (14, .q), (10, .g), (11, .g), (15, .g), (16, .q), (17, .q), (18, .q)] (by kernel_rfl) (by kernel_rfl) ?_
    simp only [pick, List.filterMap_cons, List.filterMap_nil, List.getElem?_toArray, List.getElem?_cons_zero, List.getElem?_cons_succ, Option.map_some]
    repeat (first
      | ((with_reducible refine wpD_p (fun K hK => ?_)); go_simp; refine hK _ ?_; clear hK K)
      | ((with_reducible refine wpD_q (fun K hK => ?_)); go_simp; (first | refine hK _ ?_ | (go_bits; refine hK _ ?_) | (go_bits; go_simp; refine hK _ ?_)); clear hK K)
      | ((with_reducible refine wpD_g (fun K hK => ?_)); go_simp; refine hK _ _ ?_; clear hK K)
      | ((with_reducible refine wpD_g (fun K hK => ?_)); go_simp; refine ⟨Grew.of_alloc _, hK _ _ ?_⟩; clear hK K)
      | ((with_reducible refine wpD_g (fun K hK => ?_)); go_simp; refine ⟨Below.refl _ _, hK _ _ ?_⟩; clear hK K)
      | ((with_reducible refine wpD_g (fun K hK => ?_)); go_simp; go_at_call 80; refine (opposite_any _ _ hd).mono ?_; rintro e _ ⟨rfl, rfl⟩; refine ⟨_, rfl, Below.refl _ _, hK _ _ ?_⟩; clear hK K)
      | ((with_reducible refine wpD_g (fun K hK => ?_)); go_simp; go_at_call 128; refine (glue_at (hTH.out.below RSti.stable (by exact bel_)) (by first | exact hE.out | exact hE2.out) (by first | exact hd | exact opp_lt hd) (by first | exact hg1.out | exact hg2.out)).mono ?_; rintro e w4 ⟨rfl, hb4⟩; refine ⟨_, rfl, hb4, hK _ _ ?_⟩; clear hK K; obtain ⟨chb4, fhb4, shb4, thb4⟩ := bcell hb4; (try have bhb40 := shb4 (w.heap.size) (by go_simp)); (try have bhb41 := shb4 (w.heap.size + 1) (by go_simp)); (try have bhb42 := shb4 (bo) (by go_simp)); (try have bhb43 := shb4 (bc2) (by go_simp)); (try have bhb44 := shb4 (bno) (by go_simp))))
    with_reducible refine wpD_nil ?_
    go_wp2
    go_ret
    exact ⟨ret_bool hr.out.symm, by exact bel_⟩
theorem meets_tn {G T C O B F : Option Addr} {n cg m ct q cc oc bc fn fc : Nat} {tp : Int} {gs : List Gl} {ts : List Sti} {cs : List Sc} {c : Sc} {i d t : Nat} {w : World} {b : Bool} (ht : c.t = t) (hT : RdSl 4 RSti w T m ts) (hC : RdSl 6 RSc w C q cs) (hV : CellsV gs ts cs) (hi : cs[i]? = some c) (hc : RdSl 1 RBool w O 4 c.on) (hd : d < 4) (hb : meetB ts cs c d = b) :
    Calls Try.prog 77 #[.agg #[.slice G n cg, .slice T m ct, .int .i64 tp, .slice C q cc], .agg #[.int .i64 c.x, .int .i64 c.y, .int .i64 t, .slice O 4 oc, .slice B 4 bc, .slice F fn fc], .int .i64 d] w fun e w' => e = .returned (.bool b) ∧ Below w.heap.size w w' := by
  rw [← ht]; exact meets_any _ _ _ _ _ _ _ _ _ _ _ _ _ _ _ _ _ gs ts cs c i d w hT hC hV hi hc hd b hb
end Go.Proofs.Ytbipnnjkddffbaa
