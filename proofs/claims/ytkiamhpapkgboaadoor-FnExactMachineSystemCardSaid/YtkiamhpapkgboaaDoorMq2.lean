/- Walks: the program's tiles of a machine. -/
import Derived.Test.YtkiamhpapkgboaaDoorMq1p
import Derived.Deep.RegionWith
namespace Go.Proofs.YtkiamhpapkgboaaDoor
open Go.RowKit Go.Shelf
set_option linter.unusedSimpArgs false
set_option linter.unusedVariables false
attribute [local go_sem] BelowBy.cell BelowBy.cell_drew stillUpon givesUpon

set_option maxRecDepth 100000 in
set_option maxHeartbeats 8000000 in
theorem tiles_any (b bm Q S mn mc : Nat) (MA : Option Addr) (gs : List Gl) (ms : List Mvm) (w : World) (h : Mkr w b bm (gs, [])) (hA : ∀ w', Below bm w w' → RdSl 5 RMv w' MA mn ms) (hok : ∀ v ∈ ms, OkMv Q S v) (hQ : Q ≤ 5) (hS : S ≤ 4) (hn : mn ≤ 20) (hgl : gs.length ≤ 1000) (hd : numG gs ⟨#[45]⟩ = 0) (hT : TabB bm w) :
    Calls Tryd.prog 53 #[.agg #[.pointer (some ⟨b, 0, none⟩), .int .i64 (Q : Int), .int .i64 (S : Int), .slice MA mn mc]] w fun e w' => e = .returned (.tuple #[]) ∧ Mkr w' b bm (gs, tAll gs Q S ms) ∧ Far MkTs w w' ∧ Below bm w w' := by
  have hlt := h.lt
  have hml := Lib.hid (hA w (Below.refl _ _)).len
  have hAH := Lib.hid hA
  have hokH := Lib.hid hok
  have hH := Lib.hid h
  have hTH := Lib.hid hT
  have hdH := Lib.hid hd
  clear h hT hA hok hd
  go_enter Tryd.func53, Tryd.ntmps53
  go_wp2
  go_loopg [14] mn (fun g i wr => ∃ (k : Nat), k + g = mn ∧ i = .int .i64 (k : Int) ∧ Hid (Mkr wr b bm (gs, tMs gs (ms.take k))) ∧ Hid (BxT wr w.heap.size 104 [.pointer (some ⟨b, 0, none⟩), .int .i64 (Q : Int), .int .i64 (S : Int), .slice MA mn mc]) ∧ Hid (Far MkTs w wr) ∧ Hid (Below bm w wr))
  case atStart => exact ⟨0, by omega, rfl, Lib.hid (hH.out.below (bl_al (bl_refl _) _)), Lib.hid (BxT.made w [.pointer (some ⟨b, 0, none⟩), .int .i64 (Q : Int), .int .i64 (S : Int), .slice MA mn mc] _), Lib.hid (Far.of_below (bl_al (bl_refl _) _)), Lib.hid ((bl_al (bl_refl w) _).mono (by omega))⟩
  case round =>
    obtain ⟨k, hk, rfl, hM, bX, hfar, hbw⟩ := hrel
    have hszl := hbw.out.size
    have x0 := bX.out.1.cell 0 _ rfl
    have x1 := bX.out.1.cell 1 _ rfl
    have x2 := bX.out.1.cell 2 _ rfl
    have x3 := bX.out.1.cell 3 _ rfl
    have lx := bX.out.1.lt
    have hTr := Lib.hid (hTH.out.below hbw.out)
    by_cases hkn : k < mn
    · obtain ⟨v, hv⟩ : ∃ v, ms[k]? = some v := ⟨_, List.getElem?_eq_getElem (by rw [hml.out]; exact hkn)⟩
      obtain ⟨bb, ob, rfl, hbb, hbc⟩ := (hAH.out wr hbw.out).ptr (by omega)
      obtain ⟨p0, p1, p2, p3, p4⟩ := hbc k v hv
      have hov := hokH.out v (List.mem_of_getElem? hv)
      have htk : tMs gs (ms.take (k + 1)) = tMs gs (ms.take k) ++ [tMv gs v] := by
        rw [List.take_add_one, hv]; simp [tMs]
      have htkH := Lib.hid htk
      obtain ⟨v1, v2, v3, v4, v5⟩ := v
      obtain ⟨⟨a1, a2⟩, ⟨a3, a4⟩, ⟨a5, a6⟩, ⟨a7, a8⟩, a9⟩ := hov
      simp only at a1 a2 a3 a4 a5 a6 a7 a8 a9 p0 p1 p2 p3 p4
      obtain ⟨vs, rfl⟩ : ∃ n : Nat, v1 = (n : Int) := ⟨v1.toNat, by omega⟩
      obtain ⟨vr, rfl⟩ : ∃ n : Nat, v2 = (n : Int) := ⟨v2.toNat, by omega⟩
      obtain ⟨vw, rfl⟩ : ∃ n : Nat, v3 = (n : Int) := ⟨v3.toNat, by omega⟩
      obtain ⟨vn, rfl⟩ : ∃ n : Nat, v5 = (n : Int) := ⟨v5.toNat, by omega⟩
      have hvs : vs < 5 := by omega
      have hvr : vr < 4 := by omega
      have hvw : vw < 4 := by omega
      have hvn : vn < 5 := by omega
      obtain ⟨nd, hnd⟩ : ∃ s, pairN ⟨#[100, 111]⟩ vs vr = s := ⟨_, rfl⟩
      obtain ⟨nh, hnh⟩ : ∃ s, pairN ⟨#[104]⟩ vs vr = s := ⟨_, rfl⟩
      obtain ⟨na, hna⟩ : ∃ s, (⟨#[97]⟩ : ByteArray) ++ decN vw = s := ⟨_, rfl⟩
      obtain ⟨nm, hnm⟩ : ∃ s, (⟨#[109]⟩ : ByteArray) ++ decN vn = s := ⟨_, rfl⟩
      have kd := Lib.hid (NmT.of (c := (0, vs, vr)) (in_tU (by simp <;> omega)) hnd)
      have kh := Lib.hid (NmG.of (c := (2, vs, vr)) (in_gU (by simp <;> omega)) hnh)
      have ka := Lib.hid (NmG.of (c := (0, vw, 0)) (in_gU (by simp <;> omega)) hna)
      have km := Lib.hid (NmG.of (c := (1, vn, 0)) (in_gU (by simp <;> omega)) hnm)
      have hndH := Lib.hid hnd
      have hnhH := Lib.hid hnh
      have hnaH := Lib.hid hna
      have hnmH := Lib.hid hnm
      have hlen := Lib.hid (show (tMs gs (ms.take k)).length ≤ 1000 by rw [len_tMs, List.length_take]; omega)
      have hkI : (k : Int) < (mn : Int) := by omega
      clear hbc hv htk hnd hnh hna hnm a1 a2 a3 a4 a5 a6 a7 a8
      have kl := Lib.hid (NmG.of (c := (3, 0, 0)) (s := ⟨#[108]⟩) (in_gU (by simp)) rfl)
      have kr := Lib.hid (NmG.of (c := (4, 0, 0)) (s := ⟨#[114]⟩) (in_gU (by simp)) rfl)
      go_wp2_with fail
      have jb : Below wr.heap.size wr (wr.alloc (Obj.cells #[.int .i64 (vs : Int), .int .i64 (vr : Int), .int .i64 (vw : Int), .int .i64 v4, .int .i64 (vn : Int)] 82)) := bl_al (bl_refl _) _
      have bV := Lib.hid (BxT.made wr [.int .i64 (vs : Int), .int .i64 (vr : Int), .int .i64 (vw : Int), .int .i64 v4, .int .i64 (vn : Int)] 82)
      obtain ⟨V, hV⟩ : ∃ V, V = wr.heap.size := ⟨_, rfl⟩
      rw [← hV] at bV ⊢
      replace hM := Lib.hid (hM.out.below jb)
      replace bX := Lib.hid (bX.out.below jb)
      replace hfar := Lib.hid (hfar.out.trans (Far.of_below jb))
      replace hTr := Lib.hid (hTr.out.below (jb.mono (show bm ≤ wr.heap.size by omega)))
      replace hbw := Lib.hid (hbw.out.trans (jb.mono (show bm ≤ wr.heap.size by omega)))
      obtain ⟨w1, hw1⟩ : ∃ w1, w1 = wr.alloc (Obj.cells #[.int .i64 (vs : Int), .int .i64 (vr : Int), .int .i64 (vw : Int), .int .i64 v4, .int .i64 (vn : Int)] 82) := ⟨_, rfl⟩
      rw [← hw1] at hM bX hfar hTr hbw bV ⊢
      clear jb hw1 hV p0 p1 p2 p3 p4 x0 x1 x2 x3 lx hszl hbb
      obtain ⟨wr, hwr⟩ : ∃ x : World, x = w1 := ⟨_, rfl⟩
      subst hwr
      have hszl := hbw.out.size
      have q0 := bV.out.1.cell 0 _ rfl
      have q1 := bV.out.1.cell 1 _ rfl
      have lV := bV.out.1.lt
      have jb : Below wr.heap.size wr wr.drew := bl_dr (bl_refl _)
      refine wp_region_ord [(0, .q), (1, .q), (2, .q), (3, .q), (5, .q), (6, .q), (7, .q), (8, .q), (4, .g), (9, .g), (10, .q), (11, .q)] (by kernel_rfl) (by kernel_rfl) ?_
      simp only [pick, List.filterMap_cons, List.filterMap_nil, List.getElem?_toArray, List.getElem?_cons_zero, List.getElem?_cons_succ, Option.map_some]
      repeat (first | ((with_reducible refine wpD_p (fun K hK => ?_)); go_simp; refine hK _ ?_; clear hK K) | ((with_reducible refine wpD_q (fun K hK => ?_)); go_simp; (first | refine hK _ ?_ | (go_bits; refine hK _ ?_) | (go_bits; go_simp; refine hK _ ?_)); clear hK K))
      with_reducible refine wpD_g (fun K hK => ?_)
      go_simp
      refine (paired_n (a := vs) (b := vr) _ (by decide) (by omega) (by omega) (hTr.out.here.below jb) hndH.out).mono ?_
      rintro e w5 ⟨rfl, hb⟩
      refine ⟨_, rfl, hb, hK _ _ ?_⟩
      clear hK K
      replace jb := jb.trans (hb.mono jb.size)
      clear hb
      repeat (first | ((with_reducible refine wpD_p (fun K hK => ?_)); go_simp; refine hK _ ?_; clear hK K) | ((with_reducible refine wpD_q (fun K hK => ?_)); go_simp; (first | refine hK _ ?_ | (go_bits; refine hK _ ?_) | (go_bits; go_simp; refine hK _ ?_)); clear hK K))
      with_reducible refine wpD_g (fun K hK => ?_)
      go_simp
      refine (paired_n (a := vs) (b := vr) _ (by decide) (by omega) (by omega) (hTr.out.here.below jb) hnhH.out).mono ?_
      rintro e w5b ⟨rfl, hb⟩
      refine ⟨_, rfl, hb, hK _ _ ?_⟩
      clear hK K
      replace jb := jb.trans (hb.mono jb.size)
      clear hb
      repeat (first | ((with_reducible refine wpD_p (fun K hK => ?_)); go_simp; refine hK _ ?_; clear hK K) | ((with_reducible refine wpD_q (fun K hK => ?_)); go_simp; (first | refine hK _ ?_ | (go_bits; refine hK _ ?_) | (go_bits; go_simp; refine hK _ ?_)); clear hK K))
      with_reducible refine wpD_nil ?_
      replace bV := Lib.hid (bV.out.below jb)
      replace hM := Lib.hid (hM.out.below jb)
      replace bX := Lib.hid (bX.out.below jb)
      replace hfar := Lib.hid (hfar.out.trans (Far.of_below jb))
      replace hTr := Lib.hid (hTr.out.below (jb.mono (show bm ≤ wr.heap.size by omega)))
      replace hbw := Lib.hid (hbw.out.trans (jb.mono (show bm ≤ wr.heap.size by omega)))
      clear jb q0 q1 lV hszl
      obtain ⟨wr, hwr⟩ : ∃ x : World, x = w5b := ⟨_, rfl⟩
      subst hwr
      have hszl := hbw.out.size
      have q2 := bV.out.1.cell 2 _ rfl
      have q3 := bV.out.1.cell 3 _ rfl
      have q4 := bV.out.1.cell 4 _ rfl
      have lV := bV.out.1.lt
      have x0 := bX.out.1.cell 0 _ rfl
      have lx := bX.out.1.lt
      rcases a9 with rfl | rfl
      · go_wp2_with fail
        have jb : Below wr.heap.size wr wr.drew := bl_dr (bl_refl _)
        refine wp_region_ord [(0, .q), (1, .q), (2, .q), (3, .q), (4, .q), (6, .q), (7, .q), (9, .q), (5, .g), (8, .g), (10, .g), (11, .b)] (by kernel_rfl) (by kernel_rfl) ?_
        simp only [pick, List.filterMap_cons, List.filterMap_nil, List.getElem?_toArray, List.getElem?_cons_zero, List.getElem?_cons_succ, Option.map_some]
        repeat (first | ((with_reducible refine wpD_p (fun K hK => ?_)); go_simp; refine hK _ ?_; clear hK K) | ((with_reducible refine wpD_q (fun K hK => ?_)); go_simp; (first | refine hK _ ?_ | (go_bits; refine hK _ ?_) | (go_bits; go_simp; refine hK _ ?_)); clear hK K))
        with_reducible refine wpD_g (fun K hK => ?_)
        go_simp
        refine (numbered_n (u := vw) _ (by decide) (by omega) (hTr.out.here.below jb) hnaH.out).mono ?_
        rintro e w5 ⟨rfl, hb⟩
        refine ⟨_, rfl, hb, hK _ _ ?_⟩
        clear hK K
        replace jb := jb.trans (hb.mono jb.size)
        clear hb
        repeat (first | ((with_reducible refine wpD_p (fun K hK => ?_)); go_simp; refine hK _ ?_; clear hK K) | ((with_reducible refine wpD_q (fun K hK => ?_)); go_simp; (first | refine hK _ ?_ | (go_bits; refine hK _ ?_) | (go_bits; go_simp; refine hK _ ?_)); clear hK K))
        with_reducible refine wpD_g (fun K hK => ?_)
        go_simp
        refine (numbered_n (u := vn) _ (by decide) (by omega) (hTr.out.here.below jb) hnmH.out).mono ?_
        rintro e w5c ⟨rfl, hb⟩
        refine ⟨_, rfl, hb, hK _ _ ?_⟩
        clear hK K
        replace jb := jb.trans (hb.mono jb.size)
        clear hb
        repeat (first | ((with_reducible refine wpD_p (fun K hK => ?_)); go_simp; refine hK _ ?_; clear hK K) | ((with_reducible refine wpD_q (fun K hK => ?_)); go_simp; (first | refine hK _ ?_ | (go_bits; refine hK _ ?_) | (go_bits; go_simp; refine hK _ ?_)); clear hK K))
        with_reducible refine wpD_g (fun K hK => ?_)
        go_simp
        refine ⟨Grew.of_alloc _, hK _ _ ?_⟩
        clear hK K
        repeat (first | ((with_reducible refine wpD_p (fun K hK => ?_)); go_simp; refine hK _ ?_; clear hK K) | ((with_reducible refine wpD_q (fun K hK => ?_)); go_simp; (first | refine hK _ ?_ | (go_bits; refine hK _ ?_) | (go_bits; go_simp; refine hK _ ?_)); clear hK K))
        have jb2 : Below wr.heap.size wr (w5c.alloc (Obj.cells #[.string na, .string nm, .string nh, .string ⟨#[108]⟩] 9)) := jb.trans ((bl_al (bl_refl w5c) _).mono jb.size)
        with_reducible refine wpD_b (fun K hK => ?_)
        go_simp
        refine (tile_any b bm (gs, tMs gs (ms.take k)) nd _ _ _ [na, nm, nh, ⟨#[108]⟩] _ (hM.out.below jb2) (rd4 _ _ _ _ _ _ rfl) (Nat.le_trans kd.out.sz (by decide)) (zs4 ka.out.sz km.out.sz kh.out.sz kl.out.sz) (by omega) hgl hlen.out).mono ?_
        rintro e w6 ⟨rfl, hM6, hF6, hB6⟩
        refine ⟨_, rfl, hK _ _ ?_⟩
        clear hK K
        with_reducible refine wpD_nil ?_
        rw [addT_cd gs _ (0, vs, vr) kd.out.eq (sd_some ka.out.eq) (sd_some km.out.eq) (sd_some kh.out.eq) (sd_some kl.out.eq)] at hM6
        have hM7 := Lib.hid hM6
        have hfar7 := Lib.hid ((hfar.out.trans (Far.of_below jb2)).trans hF6)
        have bw7 := Lib.hid ((hbw.out.trans (jb2.mono (show bm ≤ wr.heap.size by omega))).trans hB6)
        have bX7 := Lib.hid ((bX.out.below jb2).far hF6 (by decide) hB6)
        clear hM6 hF6 hB6 jb jb2 hM bX hfar hbw hTr hszl hlen
        clear x0 lx q2 q3 q4 lV bV
        go_wp2
        go_roundg (mn - (k + 1))
        case measure => omega
        case rel => exact ⟨k + 1, by omega, by go_num, by rw [htkH.out, show tMv gs ⟨(vs : Int), (vr : Int), (vw : Int), 1, (vn : Int)⟩ = tlG gs (0, vs, vr) [some (0, vw, 0), some (1, vn, 0), some (2, vs, vr), some (3, 0, 0)] by simp [tMv]]; exact hM7, bX7, hfar7, bw7⟩
      · go_wp2_with fail
        have jb : Below wr.heap.size wr wr.drew := bl_dr (bl_refl _)
        refine wp_region_ord [(0, .q), (1, .q), (2, .q), (3, .q), (4, .q), (6, .q), (7, .q), (8, .q), (5, .g), (9, .g), (10, .g), (11, .b)] (by kernel_rfl) (by kernel_rfl) ?_
        simp only [pick, List.filterMap_cons, List.filterMap_nil, List.getElem?_toArray, List.getElem?_cons_zero, List.getElem?_cons_succ, Option.map_some]
        repeat (first | ((with_reducible refine wpD_p (fun K hK => ?_)); go_simp; refine hK _ ?_; clear hK K) | ((with_reducible refine wpD_q (fun K hK => ?_)); go_simp; (first | refine hK _ ?_ | (go_bits; refine hK _ ?_) | (go_bits; go_simp; refine hK _ ?_)); clear hK K))
        with_reducible refine wpD_g (fun K hK => ?_)
        go_simp
        refine (numbered_n (u := vw) _ (by decide) (by omega) (hTr.out.here.below jb) hnaH.out).mono ?_
        rintro e w5 ⟨rfl, hb⟩
        refine ⟨_, rfl, hb, hK _ _ ?_⟩
        clear hK K
        replace jb := jb.trans (hb.mono jb.size)
        clear hb
        repeat (first | ((with_reducible refine wpD_p (fun K hK => ?_)); go_simp; refine hK _ ?_; clear hK K) | ((with_reducible refine wpD_q (fun K hK => ?_)); go_simp; (first | refine hK _ ?_ | (go_bits; refine hK _ ?_) | (go_bits; go_simp; refine hK _ ?_)); clear hK K))
        with_reducible refine wpD_g (fun K hK => ?_)
        go_simp
        refine (numbered_n (u := vn) _ (by decide) (by omega) (hTr.out.here.below jb) hnmH.out).mono ?_
        rintro e w5c ⟨rfl, hb⟩
        refine ⟨_, rfl, hb, hK _ _ ?_⟩
        clear hK K
        replace jb := jb.trans (hb.mono jb.size)
        clear hb
        repeat (first | ((with_reducible refine wpD_p (fun K hK => ?_)); go_simp; refine hK _ ?_; clear hK K) | ((with_reducible refine wpD_q (fun K hK => ?_)); go_simp; (first | refine hK _ ?_ | (go_bits; refine hK _ ?_) | (go_bits; go_simp; refine hK _ ?_)); clear hK K))
        with_reducible refine wpD_g (fun K hK => ?_)
        go_simp
        refine ⟨Grew.of_alloc _, hK _ _ ?_⟩
        clear hK K
        repeat (first | ((with_reducible refine wpD_p (fun K hK => ?_)); go_simp; refine hK _ ?_; clear hK K) | ((with_reducible refine wpD_q (fun K hK => ?_)); go_simp; (first | refine hK _ ?_ | (go_bits; refine hK _ ?_) | (go_bits; go_simp; refine hK _ ?_)); clear hK K))
        have jb2 : Below wr.heap.size wr (w5c.alloc (Obj.cells #[.string na, .string ⟨#[114]⟩, .string nh, .string nm] 9)) := jb.trans ((bl_al (bl_refl w5c) _).mono jb.size)
        with_reducible refine wpD_b (fun K hK => ?_)
        go_simp
        refine (tile_any b bm (gs, tMs gs (ms.take k)) nd _ _ _ [na, ⟨#[114]⟩, nh, nm] _ (hM.out.below jb2) (rd4 _ _ _ _ _ _ rfl) (Nat.le_trans kd.out.sz (by decide)) (zs4 ka.out.sz kr.out.sz kh.out.sz km.out.sz) (by omega) hgl hlen.out).mono ?_
        rintro e w6 ⟨rfl, hM6, hF6, hB6⟩
        refine ⟨_, rfl, hK _ _ ?_⟩
        clear hK K
        with_reducible refine wpD_nil ?_
        rw [addT_cd gs _ (0, vs, vr) kd.out.eq (sd_some ka.out.eq) (sd_some kr.out.eq) (sd_some kh.out.eq) (sd_some km.out.eq)] at hM6
        have hM7 := Lib.hid hM6
        have hfar7 := Lib.hid ((hfar.out.trans (Far.of_below jb2)).trans hF6)
        have bw7 := Lib.hid ((hbw.out.trans (jb2.mono (show bm ≤ wr.heap.size by omega))).trans hB6)
        have bX7 := Lib.hid ((bX.out.below jb2).far hF6 (by decide) hB6)
        clear hM6 hF6 hB6 jb jb2 hM bX hfar hbw hTr hszl hlen
        clear x0 lx q2 q3 q4 lV bV
        go_wp2
        go_roundg (mn - (k + 1))
        case measure => omega
        case rel => exact ⟨k + 1, by omega, by go_num, by rw [htkH.out, show tMv gs ⟨(vs : Int), (vr : Int), (vw : Int), 3, (vn : Int)⟩ = tlG gs (0, vs, vr) [some (0, vw, 0), some (4, 0, 0), some (2, vs, vr), some (1, vn, 0)] by simp [tMv]]; exact hM7, bX7, hfar7, bw7⟩
    · obtain rfl : k = mn := by omega
      have hM0 := hM.out
      rw [List.take_of_length_le (by rw [hml.out]; exact Nat.le_refl _)] at hM0
      have hM8 := Lib.hid hM0
      clear hM hM0
      go_wp2
      go_loopg [59] Q (fun g i wr => ∃ (q : Nat), q + g = Q ∧ i = .int .i64 (q : Int) ∧ Hid (Mkr wr b bm (gs, tMs gs ms ++ tIa gs S q)) ∧ Hid (BxT wr w.heap.size 104 [.pointer (some ⟨b, 0, none⟩), .int .i64 (Q : Int), .int .i64 (S : Int), .slice MA k mc]) ∧ Hid (Far MkTs w wr) ∧ Hid (Below bm w wr))
      case atStart => exact ⟨0, by omega, rfl, by simp only [tIa, List.append_nil]; exact hM8, bX, hfar, hbw⟩
      case round =>
        clear hM8 bX hfar hbw hszl x0 x1 x2 x3 lx hTr
        obtain ⟨q, hq, rfl, hM, bX, hfar, hbw⟩ := hrel
        have hszl := hbw.out.size
        have x0 := bX.out.1.cell 0 _ rfl
        have x1 := bX.out.1.cell 1 _ rfl
        have x2 := bX.out.1.cell 2 _ rfl
        have x3 := bX.out.1.cell 3 _ rfl
        have lx := bX.out.1.lt
        have hTr := Lib.hid (hTH.out.below hbw.out)
        by_cases hqn : q < Q
        · have hmul : q * (2 * S) ≤ 5 * 8 := Nat.mul_le_mul (by omega) (by omega)
          go_wp2
          go_loopg [65] S (fun g i wr => ∃ (i0 : Nat), i0 + g = S ∧ i = .int .i64 (i0 : Int) ∧ Hid (Mkr wr b bm (gs, tMs gs ms ++ tIa gs S q ++ tIn gs q i0)) ∧ Hid (BxT wr w.heap.size 104 [.pointer (some ⟨b, 0, none⟩), .int .i64 (Q : Int), .int .i64 (S : Int), .slice MA k mc]) ∧ Hid (Far MkTs w wr) ∧ Hid (Below bm w wr))
          case atStart => exact ⟨0, by omega, rfl, by simp only [tIn, List.append_nil]; exact hM, bX, hfar, hbw⟩
          case round =>
            clear hM bX hfar hbw x0 x1 x2 x3 lx hTr hszl
            obtain ⟨i0, hi0, rfl, hM, bX, hfar, hbw⟩ := hrel
            have hszl := hbw.out.size
            have x0 := bX.out.1.cell 0 _ rfl
            have x1 := bX.out.1.cell 1 _ rfl
            have x2 := bX.out.1.cell 2 _ rfl
            have x3 := bX.out.1.cell 3 _ rfl
            have lx := bX.out.1.lt
            have hTr := Lib.hid (hTH.out.below hbw.out)
            by_cases hin : i0 < S
            · obtain ⟨nw, hnw⟩ : ∃ s, pairN ⟨#[105, 110, 119]⟩ q i0 = s := ⟨_, rfl⟩
              obtain ⟨ne, hne⟩ : ∃ s, pairN ⟨#[105, 110, 101]⟩ q i0 = s := ⟨_, rfl⟩
              obtain ⟨nh, hnh⟩ : ∃ s, pairN ⟨#[104]⟩ q i0 = s := ⟨_, rfl⟩
              obtain ⟨na, hna⟩ : ∃ s, (⟨#[97]⟩ : ByteArray) ++ decN i0 = s := ⟨_, rfl⟩
              obtain ⟨nm, hnm⟩ : ∃ s, (⟨#[109]⟩ : ByteArray) ++ decN q = s := ⟨_, rfl⟩
              have kw := Lib.hid (NmT.of (c := (1, q, i0)) (in_tU (by simp <;> omega)) hnw)
              have ke := Lib.hid (NmT.of (c := (2, q, i0)) (in_tU (by simp <;> omega)) hne)
              have kh := Lib.hid (NmG.of (c := (2, q, i0)) (in_gU (by simp <;> omega)) hnh)
              have ka := Lib.hid (NmG.of (c := (0, i0, 0)) (in_gU (by simp <;> omega)) hna)
              have km := Lib.hid (NmG.of (c := (1, q, 0)) (in_gU (by simp <;> omega)) hnm)
              have kl := Lib.hid (NmG.of (c := (3, 0, 0)) (s := ⟨#[108]⟩) (in_gU (by simp)) rfl)
              have kr := Lib.hid (NmG.of (c := (4, 0, 0)) (s := ⟨#[114]⟩) (in_gU (by simp)) rfl)
              have hnwH := Lib.hid hnw
              have hneH := Lib.hid hne
              have hnhH := Lib.hid hnh
              have hnaH := Lib.hid hna
              have hnmH := Lib.hid hnm
              clear hnw hne hnh hna hnm
              have hlen := Lib.hid (show (tMs gs ms ++ tIa gs S q ++ tIn gs q i0).length ≤ 1000 by
                simp only [List.length_append, List.length_cons, List.length_nil, len_tMs, len_tIa, len_tIn, len_tEW, hml.out]; omega)
              go_wp2_with fail
              have jb : Below wr.heap.size wr wr.drew := bl_dr (bl_refl _)
              refine wp_region_ord [(0, .q), (1, .q), (2, .q), (3, .q), (5, .q), (6, .q), (8, .q), (10, .q), (4, .g), (7, .g), (9, .g), (11, .g), (12, .g), (13, .b)] (by kernel_rfl) (by kernel_rfl) ?_
              simp only [pick, List.filterMap_cons, List.filterMap_nil, List.getElem?_toArray, List.getElem?_cons_zero, List.getElem?_cons_succ, Option.map_some]
              repeat (first | ((with_reducible refine wpD_p (fun K hK => ?_)); go_simp; refine hK _ ?_; clear hK K) | ((with_reducible refine wpD_q (fun K hK => ?_)); go_simp; (first | refine hK _ ?_ | (go_bits; refine hK _ ?_) | (go_bits; go_simp; refine hK _ ?_)); clear hK K))
              with_reducible refine wpD_g (fun K hK => ?_)
              go_simp
              refine (paired_n (a := q) (b := i0) _ (by decide) (by omega) (by omega) (hTr.out.here.below jb) hnwH.out).mono ?_
              rintro e w5 ⟨rfl, hb⟩
              refine ⟨_, rfl, hb, hK _ _ ?_⟩
              clear hK K
              replace jb := jb.trans (hb.mono jb.size)
              clear hb
              repeat (first | ((with_reducible refine wpD_p (fun K hK => ?_)); go_simp; refine hK _ ?_; clear hK K) | ((with_reducible refine wpD_q (fun K hK => ?_)); go_simp; (first | refine hK _ ?_ | (go_bits; refine hK _ ?_) | (go_bits; go_simp; refine hK _ ?_)); clear hK K))
              with_reducible refine wpD_g (fun K hK => ?_)
              go_simp
              refine (paired_n (a := q) (b := i0) _ (by decide) (by omega) (by omega) (hTr.out.here.below jb) hnhH.out).mono ?_
              rintro e w5b ⟨rfl, hb⟩
              refine ⟨_, rfl, hb, hK _ _ ?_⟩
              clear hK K
              replace jb := jb.trans (hb.mono jb.size)
              clear hb
              repeat (first | ((with_reducible refine wpD_p (fun K hK => ?_)); go_simp; refine hK _ ?_; clear hK K) | ((with_reducible refine wpD_q (fun K hK => ?_)); go_simp; (first | refine hK _ ?_ | (go_bits; refine hK _ ?_) | (go_bits; go_simp; refine hK _ ?_)); clear hK K))
              with_reducible refine wpD_g (fun K hK => ?_)
              go_simp
              refine (numbered_n (u := i0) _ (by decide) (by omega) (hTr.out.here.below jb) hnaH.out).mono ?_
              rintro e w5c ⟨rfl, hb⟩
              refine ⟨_, rfl, hb, hK _ _ ?_⟩
              clear hK K
              replace jb := jb.trans (hb.mono jb.size)
              clear hb
              repeat (first | ((with_reducible refine wpD_p (fun K hK => ?_)); go_simp; refine hK _ ?_; clear hK K) | ((with_reducible refine wpD_q (fun K hK => ?_)); go_simp; (first | refine hK _ ?_ | (go_bits; refine hK _ ?_) | (go_bits; go_simp; refine hK _ ?_)); clear hK K))
              with_reducible refine wpD_g (fun K hK => ?_)
              go_simp
              refine (numbered_n (u := q) _ (by decide) (by omega) (hTr.out.here.below jb) hnmH.out).mono ?_
              rintro e w5d ⟨rfl, hb⟩
              refine ⟨_, rfl, hb, hK _ _ ?_⟩
              clear hK K
              replace jb := jb.trans (hb.mono jb.size)
              clear hb
              repeat (first | ((with_reducible refine wpD_p (fun K hK => ?_)); go_simp; refine hK _ ?_; clear hK K) | ((with_reducible refine wpD_q (fun K hK => ?_)); go_simp; (first | refine hK _ ?_ | (go_bits; refine hK _ ?_) | (go_bits; go_simp; refine hK _ ?_)); clear hK K))
              with_reducible refine wpD_g (fun K hK => ?_)
              go_simp
              refine ⟨Grew.of_alloc _, hK _ _ ?_⟩
              clear hK K
              repeat (first | ((with_reducible refine wpD_p (fun K hK => ?_)); go_simp; refine hK _ ?_; clear hK K) | ((with_reducible refine wpD_q (fun K hK => ?_)); go_simp; (first | refine hK _ ?_ | (go_bits; refine hK _ ?_) | (go_bits; go_simp; refine hK _ ?_)); clear hK K))
              have jb2 : Below wr.heap.size wr (w5d.alloc (Obj.cells #[.string nh, .string ⟨#[114]⟩, .string na, .string nm] 9)) := jb.trans ((bl_al (bl_refl w5d) _).mono jb.size)
              with_reducible refine wpD_b (fun K hK => ?_)
              go_simp
              refine (tile_any b bm (gs, tMs gs ms ++ tIa gs S q ++ tIn gs q i0) nw _ _ _ [nh, ⟨#[114]⟩, na, nm] _ (hM.out.below jb2) (rd4 _ _ _ _ _ _ rfl) (Nat.le_trans kw.out.sz (by decide)) (zs4 kh.out.sz kr.out.sz ka.out.sz km.out.sz) (by omega) hgl hlen.out).mono ?_
              rintro e w6 ⟨rfl, hM6, hF6, hB6⟩
              refine ⟨_, rfl, hK _ _ ?_⟩
              clear hK K
              with_reducible refine wpD_nil ?_
              rw [addT_cd gs _ (1, q, i0) kw.out.eq (sd_some kh.out.eq) (sd_some kr.out.eq) (sd_some ka.out.eq) (sd_some km.out.eq)] at hM6
              have hM7 := Lib.hid hM6
              have hfar7 := Lib.hid ((hfar.out.trans (Far.of_below jb2)).trans hF6)
              have bw7 := Lib.hid ((hbw.out.trans (jb2.mono (show bm ≤ wr.heap.size by omega))).trans hB6)
              have bX7 := Lib.hid ((bX.out.below jb2).far hF6 (by decide) hB6)
              clear hM6 hF6 hB6 jb jb2 hM bX hfar hbw hTr hszl hlen
              clear x0 x1 x2 x3 lx
              obtain ⟨wr, hwr⟩ : ∃ x : World, x = w6 := ⟨_, rfl⟩
              subst hwr
              have hM := hM7
              have bX := bX7
              have hfar := hfar7
              have hbw := bw7
              clear hM7 bX7 hfar7 bw7
              have hszl := hbw.out.size
              have x0 := bX.out.1.cell 0 _ rfl
              have x1 := bX.out.1.cell 1 _ rfl
              have x2 := bX.out.1.cell 2 _ rfl
              have x3 := bX.out.1.cell 3 _ rfl
              have lx := bX.out.1.lt
              have hTr := Lib.hid (hTH.out.below hbw.out)
              have jb : Below wr.heap.size wr wr.drew := bl_dr (bl_refl _)
              have hlen := Lib.hid (show (tMs gs ms ++ tIa gs S q ++ tIn gs q i0 ++ [tIw gs q i0]).length ≤ 1000 by
                simp only [List.length_append, List.length_cons, List.length_nil, len_tMs, len_tIa, len_tIn, len_tEW, hml.out]; omega)
              go_wp2_with fail
              refine wp_region_ord [(0, .q), (1, .q), (2, .q), (3, .q), (5, .q), (6, .q), (8, .q), (10, .q), (4, .g), (7, .g), (9, .g), (11, .g), (12, .g), (13, .b)] (by kernel_rfl) (by kernel_rfl) ?_
              simp only [pick, List.filterMap_cons, List.filterMap_nil, List.getElem?_toArray, List.getElem?_cons_zero, List.getElem?_cons_succ, Option.map_some]
              repeat (first | ((with_reducible refine wpD_p (fun K hK => ?_)); go_simp; refine hK _ ?_; clear hK K) | ((with_reducible refine wpD_q (fun K hK => ?_)); go_simp; (first | refine hK _ ?_ | (go_bits; refine hK _ ?_) | (go_bits; go_simp; refine hK _ ?_)); clear hK K))
              with_reducible refine wpD_g (fun K hK => ?_)
              go_simp
              refine (paired_n (a := q) (b := i0) _ (by decide) (by omega) (by omega) (hTr.out.here.below jb) hneH.out).mono ?_
              rintro e w7 ⟨rfl, hb⟩
              refine ⟨_, rfl, hb, hK _ _ ?_⟩
              clear hK K
              replace jb := jb.trans (hb.mono jb.size)
              clear hb
              repeat (first | ((with_reducible refine wpD_p (fun K hK => ?_)); go_simp; refine hK _ ?_; clear hK K) | ((with_reducible refine wpD_q (fun K hK => ?_)); go_simp; (first | refine hK _ ?_ | (go_bits; refine hK _ ?_) | (go_bits; go_simp; refine hK _ ?_)); clear hK K))
              with_reducible refine wpD_g (fun K hK => ?_)
              go_simp
              refine (paired_n (a := q) (b := i0) _ (by decide) (by omega) (by omega) (hTr.out.here.below jb) hnhH.out).mono ?_
              rintro e w7b ⟨rfl, hb⟩
              refine ⟨_, rfl, hb, hK _ _ ?_⟩
              clear hK K
              replace jb := jb.trans (hb.mono jb.size)
              clear hb
              repeat (first | ((with_reducible refine wpD_p (fun K hK => ?_)); go_simp; refine hK _ ?_; clear hK K) | ((with_reducible refine wpD_q (fun K hK => ?_)); go_simp; (first | refine hK _ ?_ | (go_bits; refine hK _ ?_) | (go_bits; go_simp; refine hK _ ?_)); clear hK K))
              with_reducible refine wpD_g (fun K hK => ?_)
              go_simp
              refine (numbered_n (u := q) _ (by decide) (by omega) (hTr.out.here.below jb) hnmH.out).mono ?_
              rintro e w7c ⟨rfl, hb⟩
              refine ⟨_, rfl, hb, hK _ _ ?_⟩
              clear hK K
              replace jb := jb.trans (hb.mono jb.size)
              clear hb
              repeat (first | ((with_reducible refine wpD_p (fun K hK => ?_)); go_simp; refine hK _ ?_; clear hK K) | ((with_reducible refine wpD_q (fun K hK => ?_)); go_simp; (first | refine hK _ ?_ | (go_bits; refine hK _ ?_) | (go_bits; go_simp; refine hK _ ?_)); clear hK K))
              with_reducible refine wpD_g (fun K hK => ?_)
              go_simp
              refine (numbered_n (u := i0) _ (by decide) (by omega) (hTr.out.here.below jb) hnaH.out).mono ?_
              rintro e w7d ⟨rfl, hb⟩
              refine ⟨_, rfl, hb, hK _ _ ?_⟩
              clear hK K
              replace jb := jb.trans (hb.mono jb.size)
              clear hb
              repeat (first | ((with_reducible refine wpD_p (fun K hK => ?_)); go_simp; refine hK _ ?_; clear hK K) | ((with_reducible refine wpD_q (fun K hK => ?_)); go_simp; (first | refine hK _ ?_ | (go_bits; refine hK _ ?_) | (go_bits; go_simp; refine hK _ ?_)); clear hK K))
              with_reducible refine wpD_g (fun K hK => ?_)
              go_simp
              refine ⟨Grew.of_alloc _, hK _ _ ?_⟩
              clear hK K
              repeat (first | ((with_reducible refine wpD_p (fun K hK => ?_)); go_simp; refine hK _ ?_; clear hK K) | ((with_reducible refine wpD_q (fun K hK => ?_)); go_simp; (first | refine hK _ ?_ | (go_bits; refine hK _ ?_) | (go_bits; go_simp; refine hK _ ?_)); clear hK K))
              have jb2 : Below wr.heap.size wr (w7d.alloc (Obj.cells #[.string nh, .string nm, .string na, .string ⟨#[108]⟩] 9)) := jb.trans ((bl_al (bl_refl w7d) _).mono jb.size)
              with_reducible refine wpD_b (fun K hK => ?_)
              go_simp
              refine (tile_any b bm (gs, tMs gs ms ++ tIa gs S q ++ tIn gs q i0 ++ [tIw gs q i0]) ne _ _ _ [nh, nm, na, ⟨#[108]⟩] _ (hM.out.below jb2) (rd4 _ _ _ _ _ _ rfl) (Nat.le_trans ke.out.sz (by decide)) (zs4 kh.out.sz km.out.sz ka.out.sz kl.out.sz) (by omega) hgl hlen.out).mono ?_
              rintro e w6 ⟨rfl, hM6, hF6, hB6⟩
              refine ⟨_, rfl, hK _ _ ?_⟩
              clear hK K
              with_reducible refine wpD_nil ?_
              rw [addT_cd gs _ (2, q, i0) ke.out.eq (sd_some kh.out.eq) (sd_some km.out.eq) (sd_some ka.out.eq) (sd_some kl.out.eq)] at hM6
              have hM7 := Lib.hid hM6
              have hfar7 := Lib.hid ((hfar.out.trans (Far.of_below jb2)).trans hF6)
              have bw7 := Lib.hid ((hbw.out.trans (jb2.mono (show bm ≤ wr.heap.size by omega))).trans hB6)
              have bX7 := Lib.hid ((bX.out.below jb2).far hF6 (by decide) hB6)
              clear hM6 hF6 hB6 jb jb2 hM bX hfar hbw hTr hszl hlen
              clear x0 x1 x2 x3 lx
              go_wp2
              go_roundg (S - (i0 + 1))
              case measure => omega
              case rel => exact ⟨i0 + 1, by omega, by go_num, by rw [tIn, ← List.append_assoc, ← List.append_assoc]; exact hM7, bX7, hfar7, bw7⟩
            · obtain rfl : i0 = S := by omega
              go_wp2
              go_roundg (Q - (q + 1))
              case measure => omega
              case rel => exact ⟨q + 1, by omega, by go_num, by rw [tIa, ← List.append_assoc]; exact hM, bX, hfar, hbw⟩
        · obtain rfl : q = Q := by omega
          have hmul : q * (2 * S) ≤ 5 * 8 := Nat.mul_le_mul (by omega) (by omega)
          go_wp2
          go_loopg [101] S (fun g i wr => ∃ (i0 : Nat), i0 + g = S ∧ i = .int .i64 (i0 : Int) ∧ Hid (Mkr wr b bm (gs, tMs gs ms ++ tIa gs S q ++ tEW gs i0)) ∧ Hid (BxT wr w.heap.size 104 [.pointer (some ⟨b, 0, none⟩), .int .i64 (q : Int), .int .i64 (S : Int), .slice MA k mc]) ∧ Hid (Far MkTs w wr) ∧ Hid (Below bm w wr))
          case atStart => exact ⟨0, by omega, rfl, by simp only [tEW, List.append_nil]; exact hM, bX, hfar, hbw⟩
          case round =>
            clear hM bX hfar hbw x0 x1 x2 x3 lx hTr hszl
            obtain ⟨i0, hi0, rfl, hM, bX, hfar, hbw⟩ := hrel
            have hszl := hbw.out.size
            have x0 := bX.out.1.cell 0 _ rfl
            have x1 := bX.out.1.cell 1 _ rfl
            have x2 := bX.out.1.cell 2 _ rfl
            have x3 := bX.out.1.cell 3 _ rfl
            have lx := bX.out.1.lt
            have hTr := Lib.hid (hTH.out.below hbw.out)
            by_cases hin : i0 < S
            · obtain ⟨nw, hnw⟩ : ∃ s, (⟨#[119, 101, 115, 116]⟩ : ByteArray) ++ decN i0 = s := ⟨_, rfl⟩
              obtain ⟨ne, hne⟩ : ∃ s, (⟨#[101, 97, 115, 116]⟩ : ByteArray) ++ decN i0 = s := ⟨_, rfl⟩
              obtain ⟨na, hna⟩ : ∃ s, (⟨#[97]⟩ : ByteArray) ++ decN i0 = s := ⟨_, rfl⟩
              have kw := Lib.hid (NmT.of (c := (4, i0, 0)) (in_tU (by simp <;> omega)) hnw)
              have ke := Lib.hid (NmT.of (c := (3, i0, 0)) (in_tU (by simp <;> omega)) hne)
              have ka := Lib.hid (NmG.of (c := (0, i0, 0)) (in_gU (by simp <;> omega)) hna)
              have kl := Lib.hid (NmG.of (c := (3, 0, 0)) (s := ⟨#[108]⟩) (in_gU (by simp)) rfl)
              have kr := Lib.hid (NmG.of (c := (4, 0, 0)) (s := ⟨#[114]⟩) (in_gU (by simp)) rfl)
              have hnwH := Lib.hid hnw
              have hneH := Lib.hid hne
              have hnaH := Lib.hid hna
              clear hnw hne hna
              have hlen := Lib.hid (show (tMs gs ms ++ tIa gs S q ++ tEW gs i0).length ≤ 1000 by
                simp only [List.length_append, List.length_cons, List.length_nil, len_tMs, len_tIa, len_tIn, len_tEW, hml.out]; omega)
              go_wp2_with fail
              refine (numbered_n (u := i0) _ (by decide) (by omega) hTr.out.here hnaH.out).mono ?_
              rintro e w5 ⟨rfl, jb⟩
              replace hM := Lib.hid (hM.out.below jb)
              replace bX := Lib.hid (bX.out.below jb)
              replace hfar := Lib.hid (hfar.out.trans (Far.of_below jb))
              replace hTr := Lib.hid (hTr.out.below (jb.mono (show bm ≤ wr.heap.size by omega)))
              replace hbw := Lib.hid (hbw.out.trans (jb.mono (show bm ≤ wr.heap.size by omega)))
              clear jb hszl x0 x1 x2 x3 lx
              obtain ⟨wr, hwr⟩ : ∃ x : World, x = w5 := ⟨_, rfl⟩
              subst hwr
              have hszl := hbw.out.size
              have x0 := bX.out.1.cell 0 _ rfl
              have x1 := bX.out.1.cell 1 _ rfl
              have x2 := bX.out.1.cell 2 _ rfl
              have x3 := bX.out.1.cell 3 _ rfl
              have lx := bX.out.1.lt
              have hTr := Lib.hid (hTH.out.below hbw.out)
              go_wp2_with fail
              go_region_with (first
                | (go_at_call 72; refine (numbered_n (u := i0) _ (by decide) (by omega) (hTr.out.here.below (by first | exact bl_dr (bl_refl _) | exact bl_dr (bl_al (bl_refl _) _) | exact bl_al (bl_dr (bl_refl _)) _)) hneH.out).mono ?_; rintro e w5b ⟨rfl, hb5⟩; have jb : Below wr.heap.size wr w5b := (by first | exact (bl_dr (bl_refl _)).trans (hb5.mono (by simp)) | exact (bl_al (bl_dr (bl_refl _)) _).trans (hb5.mono (by simp)) | exact (bl_dr (bl_al (bl_refl _) _)).trans (hb5.mono (by simp))); have x0 := (jb.cell (p := ⟨w.heap.size, 0, none⟩) lx).trans x0; have lx := Nat.lt_of_lt_of_le lx jb.size)
                | (go_at_call 74; refine (tile_any b bm (gs, tMs gs ms ++ tIa gs S q ++ tEW gs i0) ne _ _ _ [na, ⟨#[114]⟩, na, ⟨#[114]⟩] _ (by first | exact hM.out.below jb | exact hM.out.below (jb.trans ((bl_al (bl_refl w5b) _).mono jb.size))) (by first | exact rd4 _ _ _ _ _ _ rfl | exact (rd4 wr.drew _ _ _ _ _ rfl).below RNm.stable hb5 | exact ((rd4 wr _ _ _ _ _ rfl).below RNm.stable (bl_dr (bl_refl _))).below RNm.stable hb5) (Nat.le_trans ke.out.sz (by decide)) (zs4 ka.out.sz kr.out.sz ka.out.sz kr.out.sz) (by omega) hgl hlen.out).mono ?_; rintro e w6 ⟨rfl, hM6, hF6, hB6⟩; rw [addT_cd gs _ (3, i0, 0) ke.out.eq (sd_some ka.out.eq) (sd_some kr.out.eq) (sd_some ka.out.eq) (sd_some kr.out.eq)] at hM6; have hM7 := Lib.hid hM6; have hfar7 := Lib.hid (Far.trans (hfar.out.trans (Far.of_below (by first | exact jb | exact jb.trans ((bl_al (bl_refl w5b) _).mono jb.size)))) hF6); have bw7 := Lib.hid (Below.trans (hbw.out.trans ((show Below wr.heap.size wr _ by first | exact jb | exact jb.trans ((bl_al (bl_refl w5b) _).mono jb.size)).mono (show bm ≤ wr.heap.size by omega))) hB6); have bX7 := Lib.hid (BxT.far (bX.out.below (by first | exact jb | exact jb.trans ((bl_al (bl_refl w5b) _).mono jb.size))) hF6 (by decide) hB6); clear hM6 hF6 hB6))
              all_goals
                clear hM bX hfar hbw hTr hszl hlen jb hb5 x0 x1 x2 x3 lx
                obtain ⟨wr, hwr⟩ : ∃ x : World, x = w6 := ⟨_, rfl⟩
                subst hwr
                have hM := hM7
                have bX := bX7
                have hfar := hfar7
                have hbw := bw7
                clear hM7 bX7 hfar7 bw7
                have hszl := hbw.out.size
                have x0 := bX.out.1.cell 0 _ rfl
                have x1 := bX.out.1.cell 1 _ rfl
                have x2 := bX.out.1.cell 2 _ rfl
                have x3 := bX.out.1.cell 3 _ rfl
                have lx := bX.out.1.lt
                have hTr := Lib.hid (hTH.out.below hbw.out)
                have jb : Below wr.heap.size wr wr.drew := bl_dr (bl_refl _)
                clear jb
                have hlen := Lib.hid (show (tMs gs ms ++ tIa gs S q ++ tEW gs i0 ++ [tE gs i0]).length ≤ 1000 by
                  simp only [List.length_append, List.length_cons, List.length_nil, len_tMs, len_tIa, len_tIn, len_tEW, hml.out]; omega)
                go_wp2_with fail
                go_region_with (first
                  | (go_at_call 72; refine (numbered_n (u := i0) _ (by decide) (by omega) (hTr.out.here.below (by first | exact bl_dr (bl_refl _) | exact bl_dr (bl_al (bl_refl _) _) | exact bl_al (bl_dr (bl_refl _)) _)) hnwH.out).mono ?_; rintro e w5b ⟨rfl, hb5⟩; have jb : Below wr.heap.size wr w5b := (by first | exact (bl_dr (bl_refl _)).trans (hb5.mono (by simp)) | exact (bl_al (bl_dr (bl_refl _)) _).trans (hb5.mono (by simp)) | exact (bl_dr (bl_al (bl_refl _) _)).trans (hb5.mono (by simp))); have x0 := (jb.cell (p := ⟨w.heap.size, 0, none⟩) lx).trans x0; have lx := Nat.lt_of_lt_of_le lx jb.size)
                  | (go_at_call 74; refine (tile_any b bm (gs, tMs gs ms ++ tIa gs S q ++ tEW gs i0 ++ [tE gs i0]) nw _ _ _ [na, ⟨#[108]⟩, na, ⟨#[108]⟩] _ (by first | exact hM.out.below jb | exact hM.out.below (jb.trans ((bl_al (bl_refl w5b) _).mono jb.size))) (by first | exact rd4 _ _ _ _ _ _ rfl | exact (rd4 wr.drew _ _ _ _ _ rfl).below RNm.stable hb5 | exact ((rd4 wr _ _ _ _ _ rfl).below RNm.stable (bl_dr (bl_refl _))).below RNm.stable hb5) (Nat.le_trans kw.out.sz (by decide)) (zs4 ka.out.sz kl.out.sz ka.out.sz kl.out.sz) (by omega) hgl hlen.out).mono ?_; rintro e w6 ⟨rfl, hM6, hF6, hB6⟩; rw [addT_cd gs _ (4, i0, 0) kw.out.eq (sd_some ka.out.eq) (sd_some kl.out.eq) (sd_some ka.out.eq) (sd_some kl.out.eq)] at hM6; have hM7 := Lib.hid hM6; have hfar7 := Lib.hid (Far.trans (hfar.out.trans (Far.of_below (by first | exact jb | exact jb.trans ((bl_al (bl_refl w5b) _).mono jb.size)))) hF6); have bw7 := Lib.hid (Below.trans (hbw.out.trans ((show Below wr.heap.size wr _ by first | exact jb | exact jb.trans ((bl_al (bl_refl w5b) _).mono jb.size)).mono (show bm ≤ wr.heap.size by omega))) hB6); have bX7 := Lib.hid (BxT.far (bX.out.below (by first | exact jb | exact jb.trans ((bl_al (bl_refl w5b) _).mono jb.size))) hF6 (by decide) hB6); clear hM6 hF6 hB6))
                all_goals
                  clear hM bX hfar hbw hTr hszl hlen jb hb5 x0 x1 x2 x3 lx
                  go_wp2
                  go_roundg (S - (i0 + 1))
                  case measure => omega
                  case rel => exact ⟨i0 + 1, by omega, by go_num, by rw [tEW, ← List.append_assoc, ← List.append_assoc]; exact hM7, bX7, hfar7, bw7⟩
            · obtain rfl : i0 = S := by omega
              have kl := Lib.hid (NmG.of (c := (3, 0, 0)) (s := ⟨#[108]⟩) (in_gU (by simp)) rfl)
              have kr := Lib.hid (NmG.of (c := (4, 0, 0)) (s := ⟨#[114]⟩) (in_gU (by simp)) rfl)
              have kbl := Lib.hid (NmG.of (c := (5, 0, 0)) (s := ⟨#[98, 108]⟩) (in_gU (by simp)) rfl)
              have kbr := Lib.hid (NmG.of (c := (6, 0, 0)) (s := ⟨#[98, 114]⟩) (in_gU (by simp)) rfl)
              have kL := Lib.hid (NmT.of (c := (5, 0, 0)) (s := ⟨#[108, 101, 102, 116]⟩) (in_tU (by simp)) rfl)
              have kR := Lib.hid (NmT.of (c := (6, 0, 0)) (s := ⟨#[114, 105, 103, 104, 116]⟩) (in_tU (by simp)) rfl)
              have hlen := Lib.hid (show (tMs gs ms ++ tIa gs i0 q ++ tEW gs i0).length ≤ 1000 by
                simp only [List.length_append, List.length_cons, List.length_nil, len_tMs, len_tIa, len_tIn, len_tEW, hml.out]; omega)
              go_upto_region 27 with (go_at_call 74; refine (tile_any b bm (gs, tMs gs ms ++ tIa gs i0 q ++ tEW gs i0) ⟨#[108, 101, 102, 116]⟩ _ _ _ [⟨#[98, 108]⟩, ⟨#[108]⟩, ⟨#[98, 108]⟩, ⟨#[45]⟩] _ (hM.out.below (bl_al (bl_refl _) _)) (rd4 _ _ _ _ _ _ rfl) (by decide) (zs4 kbl.out.sz kl.out.sz kbl.out.sz (by decide)) (by omega) hgl hlen.out).mono ?_; rintro e w6 ⟨rfl, hM6, hF6, hB6⟩; rw [addT_cd gs _ (5, 0, 0) kL.out.eq (sd_some kbl.out.eq) (sd_some kl.out.eq) (sd_some kbl.out.eq) (sd_none hdH.out)] at hM6; have hM7 := Lib.hid hM6; have hfar7 := Lib.hid ((hfar.out.trans (Far.of_below (bl_al (bl_refl _) _))).trans hF6); have bw7 := Lib.hid ((hbw.out.trans ((bl_al (bl_refl wr) _).mono (show bm ≤ wr.heap.size by omega))).trans hB6); have bX7 := Lib.hid ((bX.out.below (bl_al (bl_refl _) _)).far hF6 (by decide) hB6); have x0 := bX7.out.1.cell 0 _ rfl; have lx := bX7.out.1.lt; clear hM6 hF6 hB6)
              clear hM bX hfar hbw hTr hszl hlen x1 x2 x3
              obtain ⟨wr, hwr⟩ : ∃ x : World, x = w6 := ⟨_, rfl⟩
              subst hwr
              have hM := hM7
              have bX := bX7
              have hfar := hfar7
              have hbw := bw7
              clear hM7 bX7 hfar7 bw7
              have hszl := hbw.out.size
              have x0 := bX.out.1.cell 0 _ rfl
              have x1 := bX.out.1.cell 1 _ rfl
              have x2 := bX.out.1.cell 2 _ rfl
              have x3 := bX.out.1.cell 3 _ rfl
              have lx := bX.out.1.lt
              have hTr := Lib.hid (hTH.out.below hbw.out)
              have jb : Below wr.heap.size wr wr.drew := bl_dr (bl_refl _)
              clear jb
              have hlen := Lib.hid (show (tMs gs ms ++ tIa gs i0 q ++ tEW gs i0 ++ [tL gs]).length ≤ 1000 by
                simp only [List.length_append, List.length_cons, List.length_nil, len_tMs, len_tIa, len_tIn, len_tEW, hml.out]; omega)
              go_wp2_with (go_at_call 74; refine (tile_any b bm (gs, tMs gs ms ++ tIa gs i0 q ++ tEW gs i0 ++ [tL gs]) ⟨#[114, 105, 103, 104, 116]⟩ _ _ _ [⟨#[98, 114]⟩, ⟨#[45]⟩, ⟨#[98, 114]⟩, ⟨#[114]⟩] _ (hM.out.below (bl_al (bl_refl _) _)) (rd4 _ _ _ _ _ _ rfl) (by decide) (zs4 kbr.out.sz (by decide) kbr.out.sz kr.out.sz) (by omega) hgl hlen.out).mono ?_; rintro e w6 ⟨rfl, hM6, hF6, hB6⟩; rw [addT_cd gs _ (6, 0, 0) kR.out.eq (sd_some kbr.out.eq) (sd_none hdH.out) (sd_some kbr.out.eq) (sd_some kr.out.eq)] at hM6; have hM7 := Lib.hid hM6; have hfar7 := Lib.hid ((hfar.out.trans (Far.of_below (bl_al (bl_refl _) _))).trans hF6); have bw7 := Lib.hid ((hbw.out.trans ((bl_al (bl_refl wr) _).mono (show bm ≤ wr.heap.size by omega))).trans hB6); clear hM6 hF6 hB6)
              refine bodyPost_end (v := .tuple #[]) (by simp only [results, Tryd.results53]; go_simp) rfl ?_
              exact ⟨rfl, hM7.out, hfar7.out, bw7.out⟩
end Go.Proofs.YtkiamhpapkgboaaDoor
