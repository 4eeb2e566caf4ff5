/- Walks: the program's check of signal cells. -/
import Derived.Test.YtbipnnjkddffbaaSg12
namespace Go.Proofs.Ytbipnnjkddffbaa
open Go.RowKit
set_option linter.unusedSimpArgs false
set_option linter.unusedVariables false
attribute [local go_sem] BelowBy.cell BelowBy.cell_drew stillUpon givesUpon BelowBy.cell_drewS2 BelowBy.cell_drewS3

theorem cellOk_tn {G T C O B F : Option Addr} {n cg m ct q cc oc bc fn fc : Nat} {tp : Int} {gs : List Gl} {ts : List Sti} {cs : List Sc} {c : Sc} {i : Nat} {w : World} {b : Bool} (hT : RdSl 4 RSti w T m ts) (hC : RdSl 6 RSc w C q cs) (hV : CellsV gs ts cs) (hi : cs[i]? = some c) (hc : ScRd w O B F fn c) (hb : cellB ts cs c = b) :
    Calls Try.prog 36 #[.agg #[.slice G n cg, .slice T m ct, .int .i64 tp, .slice C q cc], .agg #[.int .i64 c.x, .int .i64 c.y, .int .i64 c.t, .slice O 4 oc, .slice B 4 bc, .slice F fn fc]] w fun e w' => e = .returned (.bool b) ∧ Below w.heap.size w w' := by
  rw [← hb]; exact cellOk_any _ _ _ _ _ _ _ _ _ _ _ _ _ _ _ _ _ gs ts cs c i w hT hC hV hi hc
theorem ValidCells1_any (p : Nat) (G T C O B F : Option Addr) (n cg m ct q cc oc bc fn fc : Nat) (tp : Int) (gs : List Gl) (ts : List Sti) (cs : List Sc) (c : Sc) (i : Nat) (w : World) (hbx : BoxAt w p [.slice G n cg, .slice T m ct, .int .i64 tp, .slice C q cc]) (hT : RdSl 4 RSti w T m ts) (hC : RdSl 6 RSc w C q cs) (hV : CellsV gs ts cs) (hi : cs[i]? = some c) (hc : ScRd w O B F fn c) (b : Bool) (hb : cellB ts cs c = b) :
    Calls Try.prog 35 #[.agg #[.int .i64 c.x, .int .i64 c.y, .int .i64 c.t, .slice O 4 oc, .slice B 4 bc, .slice F fn fc], .pointer (some ⟨p, 0, none⟩)] w fun e w' => e = .returned (.bool (!b)) ∧ Below w.heap.size w w' := by
  have z0 := hbx.2 0 _ rfl
  have z1 := hbx.2 1 _ rfl
  have z2 := hbx.2 2 _ rfl
  have z3 := hbx.2 3 _ rfl
  have lp := hbx.1
  have lp2 : p ≤ w.heap.size := by omega
  have hTH := Lib.hid hT
  have hCH := Lib.hid hC
  have hVH := Lib.hid hV
  have hiH := Lib.hid hi
  have hcH := Lib.hid hc
  have hbH := Lib.hid hb
  clear hT hC hV hi hc hb hbx
  go_enter Try.func35, Try.ntmps35
  go_wp2_with (go_at_call 36; refine (cellOk_tn (hTH.out.below RSti.stable (by exact bel_)) (hCH.out.below RSc.stable (by exact bel_)) hVH.out hiH.out (hcH.out.below (by exact bel_)) hbH.out).mono ?_; rintro e w1 ⟨rfl, hb1⟩; obtain ⟨chb1, fhb1, shb1, thb1⟩ := bcell hb1)
  go_ret
  exact ⟨rfl, by exact bel_⟩
set_option maxHeartbeats 2000000 in
theorem IndexFuncSc_any (p : Nat) (G T C : Option Addr) (n cg m ct q cc d : Nat) (tp : Int) (gs : List Gl) (ts : List Sti) (cs : List Sc) (w : World) (hbx : BoxAt w p [.slice G n cg, .slice T m ct, .int .i64 tp, .slice C q cc]) (hT : RdSl 4 RSti w T m ts) (hC : RdSl 6 RSc w C q cs) (hV : CellsV gs ts cs) :
    Calls Try.prog 76 #[.slice C q d, .func (.func 35) #[] #[.pointer (some ⟨p, 0, none⟩)]] w (FirstS w q (cellJ ts cs)) := by
  have hl80 := hV.len
  rw [hC.len] at hl80
  have hTH := Lib.hid hT
  have hCH := Lib.hid hC
  have hVH := Lib.hid hV
  have hbxH := Lib.hid hbx
  clear hT hC hV hbx
  go_enter Try.func76, Try.ntmps76
  go_wp2
  go_loopg [8] q (fun r x wr => ∃ k : Nat, k + r = q ∧ x = .int .i64 k ∧ Hid (∀ j, j < k → cellJ ts cs j = true) ∧ Below w.heap.size w wr)
  case atStart => exact ⟨0, by omega, rfl, Lib.hid (fun j hj => by omega), Below.refl _ _⟩
  case round =>
    obtain ⟨k, hk, rfl, hok, hbw⟩ := hrel
    by_cases hkn : k < q
    · have hC1 := hCH.out.below RSc.stable hbw
      have hC1H := Lib.hid hC1
      have hT1 := Lib.hid (hTH.out.below RSti.stable hbw)
      have hb1 := Lib.hid (hbxH.out.below hbw)
      obtain ⟨b, o, rfl, hb, hc⟩ := hC1.ptr (by omega)
      obtain ⟨c, he⟩ := hC1.get hkn
      obtain ⟨c0, c1, c2, ⟨OA, on, oc, c3, hO⟩, ⟨BA, bn, bc, c4, hB⟩, ⟨FA, fn, fc, c5, hF⟩⟩ := hc k c he
      obtain ⟨l1, l2, _⟩ := hVH.out.cell k c he
      rw [hO.len] at l1
      rw [hB.len] at l2
      subst l1 l2
      have HS := Lib.hid (cellJ_eq (ts := ts) he)
      have heH := Lib.hid he
      have hcr := Lib.hid (ScRd.mk hO hB hF)
      clear hc he hC1 hO hB hF
      cases hv4 : cellB ts cs c
      · have hv4H := Lib.hid hv4
        clear hv4
        go_wp2_with (go_at_call 35; refine (ValidCells1_any p G T _ OA BA FA n cg m ct q cc oc bc fn fc tp gs ts cs c k _ hb1.out hT1.out hC1H.out hVH.out heH.out hcr.out _ hv4H.out).mono ?_; rintro e' w1 ⟨rfl, hb1⟩)
        go_ret
        exact ⟨_, rfl, by rw [allB_false hkn (by rw [HS.out, hv4H.out])]; simp, bl_tr hbw hb1⟩
      · have hv4H := Lib.hid hv4
        clear hv4
        go_wp2_with (go_at_call 35; refine (ValidCells1_any p G T _ OA BA FA n cg m ct q cc oc bc fn fc tp gs ts cs c k _ hb1.out hT1.out hC1H.out hVH.out heH.out hcr.out _ hv4H.out).mono ?_; rintro e' w1 ⟨rfl, hb1⟩)
        go_roundg (q - (k + 1))
        case measure => omega
        case rel => exact ⟨k + 1, by omega, by go_num, Lib.hid fun j hj => (by rcases Nat.lt_succ_iff_lt_or_eq.1 hj with hj | rfl; exact hok.out j hj; rw [HS.out, hv4H.out]), bl_tr hbw hb1⟩
    · obtain rfl : k = q := by omega
      go_wp2
      go_ret
      exact ⟨_, rfl, by rw [allB_true hok.out]; simp, hbw⟩
theorem ContainsFuncSc_any (p : Nat) (G T C : Option Addr) (n cg m ct q cc d : Nat) (tp : Int) (gs : List Gl) (ts : List Sti) (cs : List Sc) (w : World) (hbx : BoxAt w p [.slice G n cg, .slice T m ct, .int .i64 tp, .slice C q cc]) (hT : RdSl 4 RSti w T m ts) (hC : RdSl 6 RSc w C q cs) (hV : CellsV gs ts cs) :
    Calls Try.prog 34 #[.slice C q d, .func (.func 35) #[] #[.pointer (some ⟨p, 0, none⟩)]] w fun e w' => e = .returned (.bool (!allB q (cellJ ts cs))) ∧ Below w.heap.size w w' := by
  have hTH := Lib.hid hT
  have hCH := Lib.hid hC
  have hVH := Lib.hid hV
  have hbxH := Lib.hid hbx
  clear hT hC hV hbx
  go_enter Try.func34, Try.ntmps34
  go_wp2_with (go_at_call 76; refine (IndexFuncSc_any p G T C n cg m ct q cc d tp gs ts cs _ hbxH.out hTH.out hCH.out hVH.out).mono ?_; rintro e w1 ⟨r, rfl, hr, hb1⟩)
  go_ret
  exact ⟨rfl, hb1⟩
theorem formOk_tn {G T C O B F : Option Addr} {n cg m ct q cc on oc bn bc fn fc : Nat} {tp : Int} {ts : List Sti} {c : Sc} {w : World} {b : Bool} (hT : RdSl 4 RSti w T m ts) (hm : m ≤ 1073741824) (h1 : RdSl 1 RBool w O on c.on) (h2 : RdSl 1 RBool w B bn c.bound) (h3 : RdSl 1 RBool w F fn c.fired) (hb : formB ts c = b) :
    Calls Try.prog 32 #[.agg #[.slice G n cg, .slice T m ct, .int .i64 tp, .slice C q cc], .agg #[.int .i64 c.x, .int .i64 c.y, .int .i64 c.t, .slice O on oc, .slice B bn bc, .slice F fn fc]] w fun e w' => e = .returned (.bool b) ∧ Below w.heap.size w w' :=
  formOk_any _ _ _ _ _ _ _ _ _ _ _ _ _ _ _ _ _ _ _ ts c w hT hm h1.len h2.len h3.len b hb
theorem lessP_atS {ax ay bx b_y : Int} {v : Bool} {w : World} (h : lessPt ax ay bx b_y = v) :
    Calls Try.prog 33 #[.agg #[.int .i64 ax, .int .i64 ay], .agg #[.int .i64 bx, .int .i64 b_y]] w fun e w' => e = .returned (.bool v) ∧ Below w.heap.size w w' := by
  rw [← h]; exact LessPoint_any _ _ _ _ _
theorem vc_set {gs : List Gl} {ts : List Sti} {cs : List Sc} (h : sgSetB gs ts = false) : validCellsB gs ts cs = false := by unfold validCellsB; rw [h]; rfl
theorem vc_len {gs : List Gl} {ts : List Sti} {cs : List Sc} (h : ¬ cs.length ≤ 80) : validCellsB gs ts cs = false := by unfold validCellsB; rw [decide_eq_false h]; simp
theorem vc_form {gs : List Gl} {ts : List Sti} {cs : List Sc} {k : Nat} (hk : k < cs.length) (h : okForm ts cs k = false) : validCellsB gs ts cs = false := by unfold validCellsB; rw [allB_false hk h]; simp
theorem vc_end {gs : List Gl} {ts : List Sti} {cs : List Sc} {b : Bool} (h : sgSetB gs ts = true) (hl : cs.length ≤ 80) (hf : ∀ j, j < cs.length → okForm ts cs j = true) (hc : allB cs.length (cellJ ts cs) = b) : validCellsB gs ts cs = b := by
  unfold validCellsB; rw [h, decide_eq_true hl, allB_true hf, hc]; simp
theorem box1_step {w wc W : World} {a : Nat} {la : List Value} (h : Hid (Below w.heap.size w wc)) (h0 : Hid (BoxAt wc a la)) (hbn : Below wc.heap.size wc W) : Hid (Below w.heap.size w W) ∧ Hid (BoxAt W a la) :=
  ⟨Lib.hid (h.out.trans (hbn.mono h.out.size)), Lib.hid (h0.out.below hbn)⟩
set_option maxRecDepth 100000 in
set_option maxHeartbeats 4000000 in
theorem ValidCells_any (G T C : Option Addr) (n cg m ct q cc : Nat) (gs : List Gl) (ts : List Sti) (cs : List Sc) (w : World) (hG : RdSl 2 RGl w G n gs) (hT : RdSl 4 RSti w T m ts) (hC : RdSl 6 RSc w C q cs) (hn : n ≤ 1073741824) (hm : m ≤ 1073741824) (hq : q ≤ 1073741824) (hbg : BigG gs) (hbs : BigS ts) :
    Calls Try.prog 10 #[.agg #[.slice G n cg, .slice T m ct], .slice C q cc] w fun e w' => e = .returned (.bool (validCellsB gs ts cs)) ∧ Below w.heap.size w w' := by
  have hlq := Lib.hid hC.len
  have hGH := Lib.hid hG
  have hTH := Lib.hid hT
  have hCH := Lib.hid hC
  have hbgH := Lib.hid hbg
  have hbsH := Lib.hid hbs
  clear hG hT hC hbg hbs
  cases hv : sgSetB gs ts
  · have hvH := Lib.hid hv
    clear hv
    go_enter Try.func10, Try.ntmps10
    go_wp2_with (go_at_call 31; refine (ValidSignalSet_any G T n cg m ct gs ts _ (hGH.out.below RGl.stable (by exact bel_)) (hTH.out.below RSti.stable (by exact bel_)) hn hm hbgH.out hbsH.out).mono ?_; rw [hvH.out]; rintro e w1 ⟨rfl, hb1⟩; obtain ⟨chb1, fhb1, shb1, thb1⟩ := bcell hb1; have b1 := shb1 (w.heap.size) (by go_simp))
    go_ret
    exact ⟨ret_bool (vc_set hvH.out).symm, by exact bel_⟩
  have hvH := Lib.hid hv
  clear hv
  by_cases h80 : q ≤ 80
  rotate_left
  · have h81 : (80 : Int) < q := by omega
    go_enter Try.func10, Try.ntmps10
    go_wp2_with (go_at_call 31; refine (ValidSignalSet_any G T n cg m ct gs ts _ (hGH.out.below RGl.stable (by exact bel_)) (hTH.out.below RSti.stable (by exact bel_)) hn hm hbgH.out hbsH.out).mono ?_; rw [hvH.out]; rintro e w1 ⟨rfl, hb1⟩; obtain ⟨chb1, fhb1, shb1, thb1⟩ := bcell hb1; have b1 := shb1 (w.heap.size) (by go_simp))
    go_ret
    exact ⟨ret_bool (vc_len (by rw [hlq.out]; exact h80)).symm, by exact bel_⟩
  go_enter Try.func10, Try.ntmps10
  go_wp2_with (go_at_call 31; refine (ValidSignalSet_any G T n cg m ct gs ts _ (hGH.out.below RGl.stable (by exact bel_)) (hTH.out.below RSti.stable (by exact bel_)) hn hm hbgH.out hbsH.out).mono ?_; rw [hvH.out]; rintro e w1 ⟨rfl, hb1⟩; obtain ⟨chb1, fhb1, shb1, thb1⟩ := bcell hb1; have b1 := shb1 (w.heap.size) (by go_simp))
  have hb1H := Lib.hid (show Below w.heap.size w w1 by exact bel_)
  clear hb1 chb1 fhb1 shb1 thb1
  go_loopg [21] q (fun r x wr => ∃ k : Nat, k + r = q ∧ x = .int .i64 (k : Int) ∧ Hid (∀ j, j < k → okForm ts cs j = true) ∧ Hid (Below w.heap.size w wr) ∧ Hid (BoxAt wr w1.heap.size [.slice G n cg, .slice T m ct, .int .i64 0, .slice C q cc]))
  case atStart => exact ⟨0, by omega, rfl, Lib.hid (fun j hj => by omega), Lib.hid (bl_al hb1H.out _), Lib.hid ⟨by simp, fun j u hu => by match j, hu with
      | 0, hu | 1, hu | 2, hu | 3, hu => simp at hu; subst hu; go_simp
      | j + 4, hu => simp at hu⟩⟩
  case round =>
    obtain ⟨k, hk, rfl, hok, hbw, hbx⟩ := hrel
    by_cases hkq : k < q
    · have hC1 := hCH.out.below RSc.stable hbw.out
      have hTw := Lib.hid (hTH.out.below RSti.stable hbw.out)
      obtain ⟨b, o, rfl, hb, hc⟩ := hC1.ptr (by omega)
      obtain ⟨c, he⟩ := hC1.get hkq
      obtain ⟨c0, c1, c2, ⟨OA, on, oc, c3, hO⟩, ⟨BA, bn, bc, c4, hB⟩, ⟨FA, fn, fc, c5, hF⟩⟩ := hc k c he
      have hOH := Lib.hid hO
      have hBH := Lib.hid hB
      have hFH := Lib.hid hF
      have z0 := hbx.out.2 0 _ rfl
      have z1 := hbx.out.2 1 _ rfl
      have z2 := hbx.out.2 2 _ rfl
      have z3 := hbx.out.2 3 _ rfl
      have lx := hbx.out.1
      have lx2 : w1.heap.size ≤ wr.heap.size := by omega
      have lb2 : b ≤ wr.heap.size := by omega
      have lb3 : b < wr.heap.size + 1 := by omega
      have heH := Lib.hid he
      
      cases hf : formB ts c
      · have hfH := Lib.hid hf
        have hr := Lib.hid (okForm_bad heH.out hf)
        clear hc he hC1 hO hB hF hf
        have hlH : Hid (lessPt 0 0 0 0 = lessPt 0 0 0 0) := Lib.hid rfl
        go_wp2
        refine wp_region_ord [(0, .q), (1, .q), (2, .g), (3, .q), (4, .q), (5, .q), (6, .q), (7, .q), (8, .q), (9, .q), (10, .q), (11, .q), (12, .q), (13, .q), (14, .q), (15, .q), (16, .g), (17, .q), (18, .q), (19, .q)] (by kernel_rfl) (by kernel_rfl) ?_
        simp only [pick, List.filterMap_cons, List.filterMap_nil, List.getElem?_toArray, List.getElem?_cons_zero, List.getElem?_cons_succ, Option.map_some]
        repeat (first
          | ((with_reducible refine wpD_p (fun K hK => ?_)); go_simp; refine hK _ ?_; clear hK K)
          | ((with_reducible refine wpD_q (fun K hK => ?_)); go_simp; (first | refine hK _ ?_ | (go_bits; refine hK _ ?_) | (go_bits; go_simp; refine hK _ ?_)); clear hK K)
          | ((with_reducible refine wpD_g (fun K hK => ?_)); go_simp; refine hK _ _ ?_; clear hK K)
          | ((with_reducible refine wpD_g (fun K hK => ?_)); go_simp; refine ⟨Grew.of_alloc _, hK _ _ ?_⟩; clear hK K)
          | ((with_reducible refine wpD_g (fun K hK => ?_)); go_simp; refine ⟨Below.refl _ _, hK _ _ ?_⟩; clear hK K)
          | ((with_reducible refine wpD_g (fun K hK => ?_)); go_simp; go_at_call 32; refine (formOk_tn (hTw.out.below RSti.stable (by exact bel_)) hm (hOH.out.below RBool.stable (by exact bel_)) (hBH.out.below RBool.stable (by exact bel_)) (hFH.out.below RBool.stable (by exact bel_)) hfH.out).mono ?_; rintro e w4 ⟨rfl, hb4⟩; refine ⟨_, rfl, hb4, hK _ _ ?_⟩; clear hK K; obtain ⟨chb4, fhb4, shb4, thb4⟩ := bcell hb4; (try have bhb40 := shb4 (wr.heap.size) (by go_simp)); (try have bhb41 := shb4 (w1.heap.size) (by go_simp)); (try have bhb42 := shb4 (b) (by go_simp)))
          | ((with_reducible refine wpD_g (fun K hK => ?_)); go_simp; go_at_call 33; refine (lessP_atS hlH.out).mono ?_; rintro e w5 ⟨rfl, hb5⟩; refine ⟨_, rfl, hb5, hK _ _ ?_⟩; clear hK K; obtain ⟨chb5, fhb5, shb5, thb5⟩ := bcell hb5; (try have bhb50 := shb5 (wr.heap.size) (by go_simp)); (try have bhb51 := shb5 (w1.heap.size) (by go_simp)); (try have bhb52 := shb5 (b) (by go_simp))))
        with_reducible refine wpD_nil ?_
        go_wp2
        go_ret
        exact ⟨ret_bool (vc_form (k := k) (by rw [hlq.out]; exact hkq) hr.out).symm, by have := hbw.out; exact bel_⟩
      have hfH := Lib.hid hf
      clear hf
      cases k with
      | zero =>
        have hr := Lib.hid (show okForm ts cs 0 = true by rw [okForm_0 heH.out, hfH.out])
        clear hc he hC1 hO hB hF
        simp only [Nat.zero_mul, Nat.add_zero] at c0 c1 c2 c3 c4 c5
        have hlH : Hid (lessPt 0 0 0 0 = lessPt 0 0 0 0) := Lib.hid rfl
        go_wp2
        refine wp_region_ord [(0, .q), (1, .q), (2, .g), (3, .q), (4, .q), (5, .q), (6, .q), (7, .q), (8, .q), (9, .q), (10, .q), (11, .q), (12, .q), (13, .q), (14, .q), (15, .q), (16, .g), (17, .q), (18, .q), (19, .q)] (by kernel_rfl) (by kernel_rfl) ?_
        simp only [pick, List.filterMap_cons, List.filterMap_nil, List.getElem?_toArray, List.getElem?_cons_zero, List.getElem?_cons_succ, Option.map_some]
        repeat (first
          | ((with_reducible refine wpD_p (fun K hK => ?_)); go_simp; refine hK _ ?_; clear hK K)
          | ((with_reducible refine wpD_q (fun K hK => ?_)); go_simp; (first | refine hK _ ?_ | (go_bits; refine hK _ ?_) | (go_bits; go_simp; refine hK _ ?_)); clear hK K)
          | ((with_reducible refine wpD_g (fun K hK => ?_)); go_simp; refine hK _ _ ?_; clear hK K)
          | ((with_reducible refine wpD_g (fun K hK => ?_)); go_simp; refine ⟨Grew.of_alloc _, hK _ _ ?_⟩; clear hK K)
          | ((with_reducible refine wpD_g (fun K hK => ?_)); go_simp; refine ⟨Below.refl _ _, hK _ _ ?_⟩; clear hK K)
          | ((with_reducible refine wpD_g (fun K hK => ?_)); go_simp; go_at_call 32; refine (formOk_tn (hTw.out.below RSti.stable (by exact bel_)) hm (hOH.out.below RBool.stable (by exact bel_)) (hBH.out.below RBool.stable (by exact bel_)) (hFH.out.below RBool.stable (by exact bel_)) hfH.out).mono ?_; rintro e w4 ⟨rfl, hb4⟩; refine ⟨_, rfl, hb4, hK _ _ ?_⟩; clear hK K; obtain ⟨chb4, fhb4, shb4, thb4⟩ := bcell hb4; (try have bhb40 := shb4 (wr.heap.size) (by go_simp)); (try have bhb41 := shb4 (w1.heap.size) (by go_simp)); (try have bhb42 := shb4 (b) (by go_simp)))
          | ((with_reducible refine wpD_g (fun K hK => ?_)); go_simp; go_at_call 33; refine (lessP_atS hlH.out).mono ?_; rintro e w5 ⟨rfl, hb5⟩; refine ⟨_, rfl, hb5, hK _ _ ?_⟩; clear hK K; obtain ⟨chb5, fhb5, shb5, thb5⟩ := bcell hb5; (try have bhb50 := shb5 (wr.heap.size) (by go_simp)); (try have bhb51 := shb5 (w1.heap.size) (by go_simp)); (try have bhb52 := shb5 (b) (by go_simp))))
        with_reducible refine wpD_nil ?_
        go_wp2
        go_roundg (q - (0 + 1))
        case measure => omega
        case rel => exact ⟨0 + 1, by omega, by go_num, Lib.hid fun j hj => (by rcases Nat.lt_succ_iff_lt_or_eq.1 hj with hj | rfl; exact hok.out j hj; exact hr.out), box1_step hbw hbx (by exact bel_)⟩
      | succ i =>
        obtain ⟨d, hd⟩ := hC1.get (k := i) (by omega)
        obtain ⟨d0, d1, _⟩ := hc i d hd
        have hdH := Lib.hid hd
        have hi : i < q := by omega
        have hpos : (0 : Int) < (i : Int) + 1 := by omega
        have hI1 : (i : Int) + 1 < (q : Int) := by omega
        have hI0 : (0 : Int) ≤ (i : Int) + 1 := by omega
        clear hc he hC1 hO hB hF hd
        cases hl : lessPt d.x d.y c.x c.y
        · have hlH := Lib.hid hl
          have hr := Lib.hid (show okForm ts cs (i + 1) = false by rw [okForm_S heH.out hdH.out, hfH.out, hl]; rfl)
          clear hl
          go_wp2
          refine wp_region_ord [(0, .q), (1, .q), (2, .g), (3, .q), (4, .q), (5, .q), (6, .q), (7, .q), (8, .q), (9, .q), (10, .q), (11, .q), (12, .q), (13, .q), (14, .q), (15, .q), (16, .g), (17, .q), (18, .q), (19, .q)] (by kernel_rfl) (by kernel_rfl) ?_
          simp only [pick, List.filterMap_cons, List.filterMap_nil, List.getElem?_toArray, List.getElem?_cons_zero, List.getElem?_cons_succ, Option.map_some]
          repeat (first
            | ((with_reducible refine wpD_p (fun K hK => ?_)); go_simp; refine hK _ ?_; clear hK K)
            | ((with_reducible refine wpD_q (fun K hK => ?_)); go_simp; (first | refine hK _ ?_ | (go_bits; refine hK _ ?_) | (go_bits; go_simp; refine hK _ ?_)); clear hK K)
            | ((with_reducible refine wpD_g (fun K hK => ?_)); go_simp; refine hK _ _ ?_; clear hK K)
            | ((with_reducible refine wpD_g (fun K hK => ?_)); go_simp; refine ⟨Grew.of_alloc _, hK _ _ ?_⟩; clear hK K)
            | ((with_reducible refine wpD_g (fun K hK => ?_)); go_simp; refine ⟨Below.refl _ _, hK _ _ ?_⟩; clear hK K)
            | ((with_reducible refine wpD_g (fun K hK => ?_)); go_simp; go_at_call 32; refine (formOk_tn (hTw.out.below RSti.stable (by exact bel_)) hm (hOH.out.below RBool.stable (by exact bel_)) (hBH.out.below RBool.stable (by exact bel_)) (hFH.out.below RBool.stable (by exact bel_)) hfH.out).mono ?_; rintro e w4 ⟨rfl, hb4⟩; refine ⟨_, rfl, hb4, hK _ _ ?_⟩; clear hK K; obtain ⟨chb4, fhb4, shb4, thb4⟩ := bcell hb4; (try have bhb40 := shb4 (wr.heap.size) (by go_simp)); (try have bhb41 := shb4 (w1.heap.size) (by go_simp)); (try have bhb42 := shb4 (b) (by go_simp)))
            | ((with_reducible refine wpD_g (fun K hK => ?_)); go_simp; go_at_call 33; refine (lessP_atS hlH.out).mono ?_; rintro e w5 ⟨rfl, hb5⟩; refine ⟨_, rfl, hb5, hK _ _ ?_⟩; clear hK K; obtain ⟨chb5, fhb5, shb5, thb5⟩ := bcell hb5; (try have bhb50 := shb5 (wr.heap.size) (by go_simp)); (try have bhb51 := shb5 (w1.heap.size) (by go_simp)); (try have bhb52 := shb5 (b) (by go_simp))))
          with_reducible refine wpD_nil ?_
          go_wp2
          go_ret
          exact ⟨ret_bool (vc_form (k := i + 1) (by rw [hlq.out]; exact hkq) hr.out).symm, by have := hbw.out; exact bel_⟩
        · have hlH := Lib.hid hl
          have hr := Lib.hid (show okForm ts cs (i + 1) = true by rw [okForm_S heH.out hdH.out, hfH.out, hl]; rfl)
          clear hl
          go_wp2
          refine wp_region_ord [(0, .q), (1, .q), (2, .g), (3, .q), (4, .q), (5, .q), (6, .q), (7, .q), (8, .q), (9, .q), (10, .q), (11, .q), (12, .q), (13, .q), (14, .q), (15, .q), (16, .g), (17, .q), (18, .q), (19, .q)] (by kernel_rfl) (by kernel_rfl) ?_
          simp only [pick, List.filterMap_cons, List.filterMap_nil, List.getElem?_toArray, List.getElem?_cons_zero, List.getElem?_cons_succ, Option.map_some]
          repeat (first
            | ((with_reducible refine wpD_p (fun K hK => ?_)); go_simp; refine hK _ ?_; clear hK K)
            | ((with_reducible refine wpD_q (fun K hK => ?_)); go_simp; (first | refine hK _ ?_ | (go_bits; refine hK _ ?_) | (go_bits; go_simp; refine hK _ ?_)); clear hK K)
            | ((with_reducible refine wpD_g (fun K hK => ?_)); go_simp; refine hK _ _ ?_; clear hK K)
            | ((with_reducible refine wpD_g (fun K hK => ?_)); go_simp; refine ⟨Grew.of_alloc _, hK _ _ ?_⟩; clear hK K)
            | ((with_reducible refine wpD_g (fun K hK => ?_)); go_simp; refine ⟨Below.refl _ _, hK _ _ ?_⟩; clear hK K)
            | ((with_reducible refine wpD_g (fun K hK => ?_)); go_simp; go_at_call 32; refine (formOk_tn (hTw.out.below RSti.stable (by exact bel_)) hm (hOH.out.below RBool.stable (by exact bel_)) (hBH.out.below RBool.stable (by exact bel_)) (hFH.out.below RBool.stable (by exact bel_)) hfH.out).mono ?_; rintro e w4 ⟨rfl, hb4⟩; refine ⟨_, rfl, hb4, hK _ _ ?_⟩; clear hK K; obtain ⟨chb4, fhb4, shb4, thb4⟩ := bcell hb4; (try have bhb40 := shb4 (wr.heap.size) (by go_simp)); (try have bhb41 := shb4 (w1.heap.size) (by go_simp)); (try have bhb42 := shb4 (b) (by go_simp)))
            | ((with_reducible refine wpD_g (fun K hK => ?_)); go_simp; go_at_call 33; refine (lessP_atS hlH.out).mono ?_; rintro e w5 ⟨rfl, hb5⟩; refine ⟨_, rfl, hb5, hK _ _ ?_⟩; clear hK K; obtain ⟨chb5, fhb5, shb5, thb5⟩ := bcell hb5; (try have bhb50 := shb5 (wr.heap.size) (by go_simp)); (try have bhb51 := shb5 (w1.heap.size) (by go_simp)); (try have bhb52 := shb5 (b) (by go_simp))))
          with_reducible refine wpD_nil ?_
          go_wp2
          go_roundg (q - ((i + 1) + 1))
          case measure => omega
          case rel => exact ⟨(i + 1) + 1, by omega, by go_num, Lib.hid fun j hj => (by rcases Nat.lt_succ_iff_lt_or_eq.1 hj with hj | rfl; exact hok.out j hj; exact hr.out), box1_step hbw hbx (by exact bel_)⟩
    · obtain rfl : k = q := by omega
      have hV := Lib.hid (cellsV_of hvH.out (by rw [hlq.out]; exact h80) (fun j hj => hok.out j (by rw [← hlq.out]; exact hj)))
      have hTw := Lib.hid (hTH.out.below RSti.stable hbw.out)
      have hCw := Lib.hid (hCH.out.below RSc.stable hbw.out)
      go_wp2_with (go_at_call 34; refine (ContainsFuncSc_any w1.heap.size G T C n cg m ct k cc cc 0 gs ts cs _ hbx.out hTw.out hCw.out hV.out).mono ?_; rintro e w2 ⟨rfl, hb2⟩)
      go_ret
      refine ⟨ret_bool ?_, by have := hbw.out; exact bel_⟩
      rw [vc_end hvH.out (by rw [hlq.out]; exact h80) (fun j hj => hok.out j (by rw [← hlq.out]; exact hj)) rfl, hlq.out]
end Go.Proofs.Ytbipnnjkddffbaa
