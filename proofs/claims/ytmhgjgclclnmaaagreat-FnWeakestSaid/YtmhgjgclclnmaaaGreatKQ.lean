import Derived.Test.YtmhgjgclclnmaaaGreatKM
import Derived.Test.YtmhgjgclclnmaaaGreatKB
import Derived.Test.YtmhgjgclclnmaaaGreatKV
import Derived.Test.YtmhgjgclclnmaaaGreatKX
import Derived.Test.YtmhgjgclclnmaaaGreatW20a
import Derived.Test.YtmhgjgclclnmaaaGreatW8
import Derived.Maps.OwnSet
import Derived.Test.YtmhgjgclclnmaaaGreatKN
import Derived.Test.YtmhgjgclclnmaaaGreatHTo
set_option linter.unusedSimpArgs false
set_option linter.unusedVariables false
/- Walks: the reference's weakest cut. -/




namespace Go.Proofs.YtmhgjgclclnmaaaGreat
open Go.RowKit Go.Shelf
attribute [local go_sem] BelowBy.cell BelowBy.cell_drew stillUpon givesUpon BelowBy.cell_drew2 BelowBy.cell_drew3

set_option maxHeartbeats 1000000 in
theorem l07Before_any (v b : Int) (A B : Option Addr) (n m c d : Nat) (l1 l2 : List Int) (w : World) (h1 : RdSl 1 RInt w A n l1) (h2 : RdSl 1 RInt w B m l2) (hn : n ≤ 1073741824) (hm : m ≤ 1073741824) {r : Bool} (hr : beforeI v l1 b l2 = r) :
    Calls Tryz.prog 126 #[.int .i64 v, .slice A n c, .int .i64 b, .slice B m d] w fun e w' => e = .returned (.bool r) ∧ Below w.heap.size w w' := by
  
  have hl1 := h1.len
  have hl2 := h2.len
  have hrH := Lib.hid hr
  clear hr
  by_cases hv : v = b
  · subst hv
    by_cases hl : n = m
    · subst hl
      go_enter Tryz.func126, Tryz.ntmps126
      go_wp2
      go_loopg [9] n (fun g i wr => ∃ k : Nat, k + g = n ∧ i = .int .i64 (k : Int) ∧ Hid (∀ j, j < k → l1[j]? = l2[j]?) ∧ Below w.heap.size w wr)
      case atStart => exact ⟨0, by omega, rfl, Lib.hid (fun j hj => by omega), bl_refl _⟩
      case round =>
        obtain ⟨k, hk, rfl, hsame, hbw⟩ := hrel
        have r1 := h1.below RInt.stable hbw
        have r2 := h2.below RInt.stable hbw
        by_cases hlt : k < n
        · obtain ⟨bb, o, rfl, hb, hc⟩ := r1.ptr (by omega)
          obtain ⟨b2, o2, rfl, hb2, hc2⟩ := r2.ptr (by omega)
          obtain ⟨e, he⟩ := h1.get hlt
          obtain ⟨e2, he2⟩ := h2.get hlt
          have c1 := hc k e he
          have c2 := hc2 k e2 he2
          unfold RInt at c1 c2
          simp only [Nat.mul_one] at c1 c2
          by_cases hee : e = e2
          · subst hee
            have hs2 := Lib.hid (show ∀ j, j < k + 1 → l1[j]? = l2[j]? from fun j hj => by
              rcases Nat.lt_succ_iff_lt_or_eq.1 hj with hj | rfl
              · exact hsame.out j hj
              · rw [he, he2])
            clear hc hc2 he he2 r1 r2
            go_wp2
            refine wp_region_ord [(0, .q), (1, .q), (2, .q), (3, .q), (4, .q), (5, .q), (6, .q), (7, .q), (8, .q)] (by kernel_rfl) (by kernel_rfl) ?_
            simp only [pick, List.filterMap_cons, List.filterMap_nil, List.getElem?_toArray, List.getElem?_cons_zero, List.getElem?_cons_succ, Option.map_some]
            repeat (first
              | ((with_reducible refine wpD_p (fun K hK => ?_)); go_simp; refine hK _ ?_; clear hK K)
              | ((with_reducible refine wpD_q (fun K hK => ?_)); go_simp; (first | refine hK _ ?_ | (go_bits; refine hK _ ?_) | (go_bits; go_simp; refine hK _ ?_)); clear hK K)
              | ((with_reducible refine wpD_g (fun K hK => ?_)); go_simp; refine hK _ _ ?_; clear hK K)
              | ((with_reducible refine wpD_g (fun K hK => ?_)); go_simp; refine ⟨Grew.of_alloc _, hK _ _ ?_⟩; clear hK K))
            with_reducible refine wpD_nil ?_
            go_wp2
            go_roundg (n - (k + 1))
            case measure => omega
            case rel => exact ⟨k + 1, by omega, by go_num, hs2, (by exact bel_)⟩
          · have hq := lexB_at hsame.out he he2 hee
            have hrr := Lib.hid (show decide (e < e2) = r by rw [← hrH.out, beforeI_lex (by omega), hq])
            have hed : (e == e2) = false := by simpa using hee
            clear hc hc2 he he2 r1 r2 hq
            go_wp2
            refine wp_region_ord [(0, .q), (1, .q), (2, .q), (3, .q), (4, .q), (5, .q), (6, .q), (7, .q), (8, .q)] (by kernel_rfl) (by kernel_rfl) ?_
            simp only [pick, List.filterMap_cons, List.filterMap_nil, List.getElem?_toArray, List.getElem?_cons_zero, List.getElem?_cons_succ, Option.map_some]
            repeat (first
              | ((with_reducible refine wpD_p (fun K hK => ?_)); go_simp; refine hK _ ?_; clear hK K)
              | ((with_reducible refine wpD_q (fun K hK => ?_)); go_simp; (first | refine hK _ ?_ | (go_bits; refine hK _ ?_) | (go_bits; go_simp; refine hK _ ?_)); clear hK K)
              | ((with_reducible refine wpD_g (fun K hK => ?_)); go_simp; refine hK _ _ ?_; clear hK K)
              | ((with_reducible refine wpD_g (fun K hK => ?_)); go_simp; refine ⟨Grew.of_alloc _, hK _ _ ?_⟩; clear hK K))
            with_reducible refine wpD_nil ?_
            go_wp2
            refine wp_region_ord [(0, .q), (1, .q), (2, .q), (3, .q), (4, .q), (5, .q), (6, .q), (7, .q), (8, .q), (9, .q)] (by kernel_rfl) (by kernel_rfl) ?_
            simp only [pick, List.filterMap_cons, List.filterMap_nil, List.getElem?_toArray, List.getElem?_cons_zero, List.getElem?_cons_succ, Option.map_some]
            repeat (first
              | ((with_reducible refine wpD_p (fun K hK => ?_)); go_simp; refine hK _ ?_; clear hK K)
              | ((with_reducible refine wpD_q (fun K hK => ?_)); go_simp; (first | refine hK _ ?_ | (go_bits; refine hK _ ?_) | (go_bits; go_simp; refine hK _ ?_)); clear hK K)
              | ((with_reducible refine wpD_g (fun K hK => ?_)); go_simp; refine hK _ _ ?_; clear hK K)
              | ((with_reducible refine wpD_g (fun K hK => ?_)); go_simp; refine ⟨Grew.of_alloc _, hK _ _ ?_⟩; clear hK K))
            with_reducible refine wpD_nil ?_
            go_wp2
            go_ret
            exact ⟨ret_bool hrr.out, by exact bel_⟩
        · obtain rfl : k = n := by omega
          have hll := lexB_end hl1 hl2 hsame.out
          have hrr := Lib.hid (show false = r by rw [← hrH.out, hll, beforeI_lex rfl, lexB_refl])
          clear hll
          go_wp2
          go_ret
          exact ⟨ret_bool hrr.out, by exact bel_⟩
    · have hq := Lib.hid (beforeI_len (v := v) (s := l1) (p := l2) (by omega))
      have hld : ((n : Int) == (m : Int)) = false := by simp; omega
      go_enter Tryz.func126, Tryz.ntmps126
      go_wp2
      go_ret
      exact ⟨ret_bool (by rw [← hrH.out, hq.out, hl1, hl2]), by exact bel_⟩
  · have hq := Lib.hid (beforeI_ne (s := l1) (p := l2) hv)
    have hvd : (v == b) = false := by simpa using hv
    go_enter Tryz.func126, Tryz.ntmps126
    go_wp2
    go_ret
    exact ⟨ret_bool (by rw [← hrH.out, hq.out]), by exact bel_⟩
def WeakRes (w : World) (n : Nat) (bs : List Bd) (e : Ending) (w' : World) : Prop := ∃ v, e = .returned (.tuple #[.int .i64 (weakR n bs).1, v]) ∧
  w'.ownsRow w.heap.size 2 1 v (intsI (weakR n bs).2).length ((intsI (weakR n bs).2).map (Value.int .i64)) ∧ Below w.heap.size w w'
theorem l07Flow0_any (n y : Nat) (B : Option Addr) (m c : Nat) (bs : List Bd) (w : World) (hB : RdSl 3 RBd w B m bs) (hb : BondsOk n bs) (hy : y < n) (hy0 : 0 < y) (hn : n ≤ 100000) (hm : m ≤ 100000) :
    Calls Tryz.prog 48 #[.int .i64 (n : Int), .slice B m c, .int .i64 0, .int .i64 (y : Int)] w (FlowRes w n B m c bs 0 y) := l07Flow_any n 0 y B m c bs w hB hb (by omega) hy (by omega) hn hm
set_option maxRecDepth 100000 in
set_option maxHeartbeats 2000000 in
theorem l07Weakest_any (n : Nat) (B : Option Addr) (m c : Nat) (bs : List Bd) (w : World) (hB : RdSl 3 RBd w B m bs) (hb : BondsOk n bs) (hn1 : 1 ≤ n) (hn : n ≤ 100000) (hm : m ≤ 100000) :
    Calls Tryz.prog 75 #[.int .i64 (n : Int), .slice B m c] w (WeakRes w n bs) := by
  have hBH := Lib.hid hB
  have hbH := Lib.hid hb
  clear hB hb
  go_enter Tryz.func75, Tryz.ntmps75
  go_wp2
  go_loopg [8, 6, 7] (n - 1) (fun gk yv bv v wr => ∃ (y : Nat) (b : Int) (p : List Nat), y + gk = n ∧ 1 ≤ y ∧ yv = .int .i64 (y : Int) ∧ bv = .int .i64 b ∧ Hid (weakK n bs (y - 1) = (b, p)) ∧ Hid (wr.ownsRow w.heap.size 2 1 v (intsI p).length ((intsI p).map (Value.int .i64))) ∧ Hid (Below w.heap.size w wr))
  case atStart => exact ⟨1, -1, [], by omega, by omega, rfl, rfl, Lib.hid rfl, Lib.hid (by have := World.ownsRow_lit (base := w.heap.size) (e := 2) (size := 1) w #[] 0 (Nat.le_refl _) (by decide) rfl; simpa [intsI] using this), Lib.hid (bl_al (bl_refl _) _)⟩
  case round =>
    obtain ⟨y, b, p, hy, hy1, rfl, rfl, hW, hrow, hbw⟩ := hrel
    have hsz := hbw.out.size
    obtain ⟨A1, c1, rfl, hrd⟩ := rdI_of hrow.out
    have hrdH := Lib.hid hrd
    clear hrd
    by_cases hyn : y < n
    · obtain ⟨fv, hfv⟩ : ∃ fv, flowV n bs 0 y = fv := ⟨_, rfl⟩
      obtain ⟨sd, hsd⟩ : ∃ sd, sideL n bs y = sd := ⟨_, rfl⟩
      have hfvH := Lib.hid hfv
      have hsdH := Lib.hid hsd
      have hsl : sd.length ≤ n := by rw [← hsd]; exact leadL_len _ _ _ _
      have hB1 := Lib.hid (hBH.out.below RBd.stable hbw.out)
      clear hfv hsd
      obtain ⟨r, hrE⟩ : ∃ r, (decide (b < 0) || before fv sd b p) = r := ⟨_, rfl⟩
      have hrH := Lib.hid hrE
      clear hrE
      rcases weakY_cases n bs hy1 with ⟨rfl, h0⟩ | ⟨bn, p', h0, hpl⟩
      · rw [hW.out] at h0
        injection h0 with h1 h2
        subst h1; subst h2
        go_wp2_with (first
          | (go_at_call 48; refine (l07Flow0_any n 1 B m c bs _ hB1.out hbH.out hyn (by omega) hn hm).mono ?_; rintro e w1 ⟨q, gF, vA, uA, rfl, hS⟩; rw [hfvH.out]; have hSH := Lib.hid hS; have hb1H := Lib.hid hS.bw; have hs1 := hS.bw.size; clear hS)
          | (go_at_call 125; refine (side_any q n gF B m c 1 bs _ vA uA _ hSH.out hB1.out hbH.out (iterF_inv hbH.out 0 1 _) hyn hn hm).mono ?_; rintro e w2 ⟨v2, rfl, hrow2, hb2⟩; rw [show leadL n (edgeB bs (iterF n bs 0 1 (flowV n bs 0 1))) 1 n = sd from hsdH.out] at hrow2; have hrow2H := Lib.hid hrow2; have hb2H := Lib.hid hb2; clear hrow2 hb2))
        go_roundg (n - 2)
        case measure => omega
        case rel =>
          refine ⟨2, fv, sd, by omega, by omega, by go_num, rfl, Lib.hid (weakY_take (y := 1) (by omega) hW.out hfvH.out hsdH.out (by simp)), Lib.hid ?_, Lib.hid (hbw.out.trans ((hb1H.out.trans (hb2H.out.mono hs1)).mono hsz))⟩
          rw [show (intsI sd).length = sd.length by simp [intsI]]
          exact ownsRow_base hrow2H.out (by omega)
      · rw [hW.out] at h0
        injection h0 with h1 h2
        subst h1; subst h2
        have hbn : ¬ ((bn : Int) < 0) := by omega
        have hbnd : decide ((bn : Int) < 0) = false := by simp
        have hbe : beforeI (fv : Int) (intsI sd) (bn : Int) (intsI p) = r := by
          have := hrH.out
          rw [hbnd, Bool.false_or] at this
          exact this
        have hbeH := Lib.hid hbe
        clear hbe
        obtain ⟨N, hN⟩ : ∃ N, (intsI p).length = N := ⟨_, rfl⟩
        have hNH := Lib.hid hN
        have hNl : N ≤ n := by rw [← hN]; simpa [intsI] using hpl
        rw [hN] at hrow hrdH ⊢
        clear hN
        cases r
        · go_wp2_with (first
            | (go_at_call 48; refine (l07Flow0_any n y B m c bs _ hB1.out hbH.out hyn (by omega) hn hm).mono ?_; rintro e w1 ⟨q, gF, vA, uA, rfl, hS⟩; rw [hfvH.out]; have hSH := Lib.hid hS; have hb1H := Lib.hid hS.bw; have hs1 := hS.bw.size; clear hS)
            | (go_at_call 125; refine (side_any q n gF B m c y bs _ vA uA _ hSH.out hB1.out hbH.out (iterF_inv hbH.out 0 y _) hyn hn hm).mono ?_; rintro e w2 ⟨v2, rfl, hrow2, hb2⟩; rw [show leadL n (edgeB bs (iterF n bs 0 y (flowV n bs 0 y))) y n = sd from hsdH.out] at hrow2; have hrow2' := hrow2; rw [show sd.length = (intsI sd).length by simp [intsI]] at hrow2'; obtain ⟨A2, c2, rfl, hrd2⟩ := rdI_of hrow2'; have hrow2H := Lib.hid hrow2'; have hrd2H := Lib.hid hrd2; have hb2H := Lib.hid hb2; have hbb := Lib.hid (hb1H.out.trans (hb2.mono hs1)); clear hrow2 hrow2' hrd2 hb2)
            | (go_at_call 126; refine (l07Before_any _ _ _ _ _ _ _ _ _ _ _ hrd2H.out (hrdH.out.below RInt.stable hbb.out) (by simp [intsI]; omega) (by omega) hbeH.out).mono ?_; rintro e w3 ⟨rfl, hb3⟩; have hb3H := Lib.hid hb3; have hs3 := hbb.out.size; clear hb3))
          go_roundg (n - (y + 1))
          case measure => omega
          case rel =>
            have hall := hbb.out.trans (hb3H.out.mono hs3)
            refine ⟨y + 1, bn, p, by omega, by omega, by go_num, rfl, Lib.hid (weakY_keep (by omega) hW.out hfvH.out hsdH.out hrH.out), Lib.hid ?_, Lib.hid (hbw.out.trans (hall.mono hsz))⟩
            rw [hNH.out]
            exact ownsRow_below hrow.out hall
        · go_wp2_with (first
            | (go_at_call 48; refine (l07Flow0_any n y B m c bs _ hB1.out hbH.out hyn (by omega) hn hm).mono ?_; rintro e w1 ⟨q, gF, vA, uA, rfl, hS⟩; rw [hfvH.out]; have hSH := Lib.hid hS; have hb1H := Lib.hid hS.bw; have hs1 := hS.bw.size; clear hS)
            | (go_at_call 125; refine (side_any q n gF B m c y bs _ vA uA _ hSH.out hB1.out hbH.out (iterF_inv hbH.out 0 y _) hyn hn hm).mono ?_; rintro e w2 ⟨v2, rfl, hrow2, hb2⟩; rw [show leadL n (edgeB bs (iterF n bs 0 y (flowV n bs 0 y))) y n = sd from hsdH.out] at hrow2; have hrow2' := hrow2; rw [show sd.length = (intsI sd).length by simp [intsI]] at hrow2'; obtain ⟨A2, c2, rfl, hrd2⟩ := rdI_of hrow2'; have hrow2H := Lib.hid hrow2'; have hrd2H := Lib.hid hrd2; have hb2H := Lib.hid hb2; have hbb := Lib.hid (hb1H.out.trans (hb2.mono hs1)); clear hrow2 hrow2' hrd2 hb2)
            | (go_at_call 126; refine (l07Before_any _ _ _ _ _ _ _ _ _ _ _ hrd2H.out (hrdH.out.below RInt.stable hbb.out) (by simp [intsI]; omega) (by omega) hbeH.out).mono ?_; rintro e w3 ⟨rfl, hb3⟩; have hb3H := Lib.hid hb3; have hs3 := hbb.out.size; have hs2 := hb2H.out.size; clear hb3))
          go_roundg (n - (y + 1))
          case measure => omega
          case rel =>
            have hall := hbb.out.trans (hb3H.out.mono hs3)
            refine ⟨y + 1, fv, sd, by omega, by omega, by go_num, rfl, Lib.hid (weakY_take (by omega) hW.out hfvH.out hsdH.out hrH.out), Lib.hid ?_, Lib.hid (hbw.out.trans (hall.mono hsz))⟩
            exact ownsRow_base (ownsRow_below hrow2H.out hb3H.out) (by omega)
    · obtain rfl : y = n := by omega
      go_wp2
      go_ret2
      refine ⟨.slice A1 (intsI p).length c1, ?_, ?_, hbw.out⟩
      · unfold weakR; rw [hW.out]; rfl
      · unfold weakR; rw [hW.out]; exact hrow.out
noncomputable def weakCutR (gs : List Gl) (ts : List Ti) (xs : List Pl) : Int × List Int × Int :=
  if validAsmB gs ts xs = false then (0, [], 1) else if xs.length < 2 then (0, [], 3) else if 64 < xs.length then (0, [], 4) else ((weakR xs.length (bondsL gs ts xs)).1, intsI (weakR xs.length (bondsL gs ts xs)).2, 0)
theorem weakCutR_no {gs : List Gl} {ts : List Ti} {xs : List Pl} (h : validAsmB gs ts xs = false) : (((0 : Int), ([] : List Int), (1 : Int)) : Int × List Int × Int) = weakCutR gs ts xs := by unfold weakCutR; rw [if_pos h]
theorem weakCutR_few {gs : List Gl} {ts : List Ti} {xs : List Pl} (h : validAsmB gs ts xs = true) (h2 : xs.length < 2) : (((0 : Int), ([] : List Int), (3 : Int)) : Int × List Int × Int) = weakCutR gs ts xs := by unfold weakCutR; rw [if_neg (by rw [h]; decide), if_pos h2]
theorem weakCutR_full {gs : List Gl} {ts : List Ti} {xs : List Pl} (h : validAsmB gs ts xs = true) (h2 : ¬ xs.length < 2) (h3 : 64 < xs.length) : (((0 : Int), ([] : List Int), (4 : Int)) : Int × List Int × Int) = weakCutR gs ts xs := by unfold weakCutR; rw [if_neg (by rw [h]; decide), if_neg h2, if_pos h3]
theorem weakCutR_yes {gs : List Gl} {ts : List Ti} {xs : List Pl} (h : validAsmB gs ts xs = true) (h2 : ¬ xs.length < 2) (h3 : ¬ 64 < xs.length) : (((weakR xs.length (bondsL gs ts xs)).1, intsI (weakR xs.length (bondsL gs ts xs)).2, (0 : Int)) : Int × List Int × Int) = weakCutR gs ts xs := by unfold weakCutR; rw [if_neg (by rw [h]; decide), if_neg h2, if_neg h3]
theorem weakCutR_len (gs : List Gl) (ts : List Ti) (xs : List Pl) : (weakCutR gs ts xs).2.1.length ≤ 1073741824 := by
  unfold weakCutR
  split
  · simp
  · split
    · simp
    · split
      · simp
      · have := weakK_len xs.length (bondsL gs ts xs) (xs.length - 1)
        simp only [intsI, List.length_map, weakR]
        omega
end Go.Proofs.YtmhgjgclclnmaaaGreat
/- Walks: the program's weakest cut. -/


namespace Go.Proofs.YtmhgjgclclnmaaaGreat
open Go.RowKit Go.Shelf
attribute [local go_sem] BelowBy.cell BelowBy.cell_drew stillUpon givesUpon BelowBy.cell_drew2 BelowBy.cell_drew3

set_option maxHeartbeats 1000000 in
/-- lists of a length, the first of which comes first -/
theorem CompareI_any (A B : Option Addr) (n c d : Nat) (l1 l2 : List Int) (w : World) (h1 : RdSl 1 RInt w A n l1) (h2 : RdSl 1 RInt w B n l2) (hn : n ≤ 1073741824) {r : Bool} (hr : lexB l1 l2 = r) :
    Calls Tryz.prog 82 #[.slice A n c, .slice B n d] w fun e w' => (∃ x : Int, e = .returned (.int .i64 x) ∧ decide (x < 0) = r) ∧ Below w.heap.size w w' := by
  
  have hl1 := h1.len
  have hl2 := h2.len
  have hrH := Lib.hid hr
  clear hr
  go_enter Tryz.func82, Tryz.ntmps82
  go_wp2
  go_loopg [11] n (fun g i wr => ∃ k : Nat, k + g = n ∧ i = .int .i64 (k : Int) ∧ Hid (∀ j, j < k → l1[j]? = l2[j]?) ∧ Below w.heap.size w wr)
  case atStart => exact ⟨0, by omega, rfl, Lib.hid (fun j hj => by omega), bl_refl _⟩
  case round =>
    obtain ⟨k, hk, rfl, hsame, hbw⟩ := hrel
    have r1 := h1.below RInt.stable hbw
    have r2 := h2.below RInt.stable hbw
    by_cases hlt : k < n
    · obtain ⟨bb, o, rfl, hb, hc⟩ := r1.ptr (by omega)
      obtain ⟨b2, o2, rfl, hb2, hc2⟩ := r2.ptr (by omega)
      obtain ⟨e, he⟩ := h1.get hlt
      obtain ⟨e2, he2⟩ := h2.get hlt
      have c1 := hc k e he
      have c2 := hc2 k e2 he2
      unfold RInt at c1 c2
      simp only [Nat.mul_one] at c1 c2
      have hge : ¬ (n : Int) ≤ (k : Int) := by omega
      by_cases hee : e = e2
      · subst hee
        have hs2 := Lib.hid (show ∀ j, j < k + 1 → l1[j]? = l2[j]? from fun j hj => by
          rcases Nat.lt_succ_iff_lt_or_eq.1 hj with hj | rfl
          · exact hsame.out j hj
          · rw [he, he2])
        have hcm : cmpI e e = 0 := by simp [cmpI]
        clear hc hc2 he he2 r1 r2
        go_wp2_with (go_at_call 133; refine (Compare_any e e _).mono ?_; rw [hcm]; rintro e' w' ⟨rfl, rfl⟩)
        go_roundg (n - (k + 1))
        case measure => omega
        case rel => exact ⟨k + 1, by omega, by go_num, hs2, (by exact bel_)⟩
      · have hq := lexB_at hsame.out he he2 hee
        have hrr := Lib.hid (show decide (e < e2) = r by rw [← hrH.out, hq])
        obtain ⟨x, hx⟩ : ∃ x, cmpI e e2 = x := ⟨_, rfl⟩
        have hx0 : ¬ (x = 0) := by
          rw [← hx]; unfold cmpI
          split
          · omega
          · split
            · omega
            · omega
        have hxd : (x == 0) = false := by simpa using hx0
        have hxl := Lib.hid (show decide (x < 0) = decide (e < e2) by
          rw [← hx]; unfold cmpI
          apply decide_eq_decide.2
          split
          · omega
          · split
            · omega
            · omega)
        clear hc hc2 he he2 r1 r2 hq
        go_wp2_with (go_at_call 133; refine (Compare_any e e2 _).mono ?_; rw [hx]; rintro e' w' ⟨rfl, rfl⟩)
        go_ret
        exact ⟨⟨x, rfl, by rw [hxl.out, hrr.out]⟩, by exact bel_⟩
    · obtain rfl : k = n := by omega
      have hll := lexB_end hl1 hl2 hsame.out
      have hrr := Lib.hid (show false = r by rw [← hrH.out, hll, lexB_refl])
      clear hll
      go_wp2
      go_ret
      exact ⟨⟨0, rfl, by rw [← hrr.out]; decide⟩, by exact bel_⟩
theorem flowing0_any (n y : Nat) (B : Option Addr) (m c : Nat) (bs : List Bd) (w : World) (hB : RdSl 3 RBd w B m bs) (hb : BondsOk n bs) (hy : y < n) (hy0 : 0 < y) (hn : n ≤ 100000) (hm : m ≤ 100000) :
    Calls Tryz.prog 46 #[.int .i64 (n : Int), .slice B m c, .int .i64 0, .int .i64 (y : Int)] w (FlowingRes w n bs 0 y) := by
  have hl := hB.len
  subst hl
  exact flowing_any n 0 y B c bs w hB hb (by omega) hy (by omega) hn hm
theorem mono_keep {fv bn : Nat} {sd p : List Int} (h : (bn : Int) < (fv : Int)) : beforeI (fv : Int) sd (bn : Int) p = false := by
  rw [beforeI_ne (by omega)]; simp; omega
set_option maxRecDepth 100000 in
set_option maxHeartbeats 4000000 in
theorem weakest_any (n : Nat) (B : Option Addr) (m c : Nat) (bs : List Bd) (w : World) (hB : RdSl 3 RBd w B m bs) (hb : BondsOk n bs) (hn1 : 1 ≤ n) (hn : n ≤ 100000) (hm : m ≤ 100000) :
    Calls Tryz.prog 76 #[.int .i64 (n : Int), .slice B m c] w (WeakRes w n bs) := by
  have hBH := Lib.hid hB
  have hbH := Lib.hid hb
  clear hB hb
  go_enter Tryz.func76, Tryz.ntmps76
  go_wp2
  go_loopg [8, 6, 7] (n - 1) (fun gk yv bv v wr => ∃ (y : Nat) (b : Int) (p : List Nat), y + gk = n ∧ 1 ≤ y ∧ yv = .int .i64 (y : Int) ∧ bv = .int .i64 b ∧ Hid (weakK n bs (y - 1) = (b, p)) ∧ Hid (wr.ownsRow w.heap.size 2 1 v (intsI p).length ((intsI p).map (Value.int .i64))) ∧ Hid (Below w.heap.size w wr))
  case atStart => exact ⟨1, -1, [], by omega, by omega, rfl, rfl, Lib.hid rfl, Lib.hid (World.ownsRow_nil _ _ _ _), Lib.hid (bl_refl _)⟩
  case round =>
    obtain ⟨y, b, p, hy, hy1, rfl, rfl, hW, hrow, hbw⟩ := hrel
    have hsz := hbw.out.size
    obtain ⟨A1, c1, rfl, hrd⟩ := rdI_of hrow.out
    have hrdH := Lib.hid hrd
    clear hrd
    by_cases hyn : y < n
    · obtain ⟨fv, hfv⟩ : ∃ fv, flowV n bs 0 y = fv := ⟨_, rfl⟩
      obtain ⟨sd, hsd⟩ : ∃ sd, sideL n bs y = sd := ⟨_, rfl⟩
      have hfvH := Lib.hid hfv
      have hsdH := Lib.hid hsd
      have hsl : sd.length ≤ n := by rw [← hsd]; exact leadL_len _ _ _ _
      have hB1 := Lib.hid (hBH.out.below RBd.stable hbw.out)
      have hfe := Lib.hid (freeE_eq hbH.out (iterF_inv hbH.out 0 y (flowV n bs 0 y)))
      clear hfv hsd
      obtain ⟨r, hrE⟩ : ∃ r, (decide (b < 0) || before fv sd b p) = r := ⟨_, rfl⟩
      have hrH := Lib.hid hrE
      clear hrE
      rcases weakY_cases n bs hy1 with ⟨rfl, h0⟩ | ⟨bn, p', h0, hpl⟩
      · rw [hW.out] at h0
        injection h0 with h1 h2
        subst h1; subst h2
        have hf0 : ¬ ((fv : Int) < -1) := by omega
        go_wp2_with (first
          | (go_at_call 46; refine (flowing0_any n 1 B m c bs _ hB1.out hbH.out hyn (by omega) hn hm).mono ?_; rintro e w1 ⟨q, vR, vF, uR, uF, rfl, hN, hb1⟩; rw [hfvH.out]; have hNH := Lib.hid hN; have hb1H := Lib.hid hb1; have hs1 := hb1.size; clear hN hb1)
          | (go_at_call 52; refine (leadingTo_any _ q n 1 _ _ vR vF uR uF _ hNH.out hyn hn).mono ?_; rw [hfe.out]; rintro e w2 ⟨v2, rfl, hrow2, hb2⟩; rw [show leadL n (edgeB bs (iterF n bs 0 1 (flowV n bs 0 1))) 1 n = sd from hsdH.out] at hrow2; have hrow2H := Lib.hid hrow2; have hb2H := Lib.hid hb2; clear hrow2 hb2))
        go_roundg (n - 2)
        case measure => omega
        case rel =>
          refine ⟨2, fv, sd, by omega, by omega, by go_num, rfl, Lib.hid (weakY_take (y := 1) (by omega) hW.out hfvH.out hsdH.out (by simp)), Lib.hid ?_, Lib.hid (hbw.out.trans ((hb1H.out.trans (hb2H.out.mono hs1)).mono hsz))⟩
          rw [show (intsI sd).length = sd.length by simp [intsI]]
          exact ownsRow_base hrow2H.out (by omega)
      · rw [hW.out] at h0
        injection h0 with h1 h2
        subst h1; subst h2
        have hbn : ¬ ((bn : Int) < 0) := by omega
        have hbn0 : (0 : Int) ≤ (bn : Int) := by omega
        have hbnd : decide ((bn : Int) < 0) = false := by simp
        have hbe : beforeI (fv : Int) (intsI sd) (bn : Int) (intsI p) = r := by
          have := hrH.out
          rw [hbnd, Bool.false_or] at this
          exact this
        have hbeH := Lib.hid hbe
        clear hbe
        obtain ⟨N, hN⟩ : ∃ N, (intsI p).length = N := ⟨_, rfl⟩
        have hNH := Lib.hid hN
        have hNl : N ≤ n := by rw [← hN]; simpa [intsI] using hpl
        rw [hN] at hrow hrdH ⊢
        clear hN
        obtain ⟨M, hM⟩ : ∃ M, (intsI sd).length = M := ⟨_, rfl⟩
        have hMH := Lib.hid hM
        have hMl : M ≤ n := by rw [← hM]; simpa [intsI] using hsl
        have hMs : sd.length = M := by rw [← hM]; simp [intsI]
        have hMsH := Lib.hid hMs
        clear hM hMs hsl hpl
        by_cases hgt : (bn : Int) < (fv : Int)
        · have hr0 := Lib.hid (show (decide ((bn : Int) < 0) || before fv sd (bn : Int) p) = false by rw [hbnd, Bool.false_or]; exact mono_keep hgt)
          go_wp2_with (go_at_call 46; refine (flowing0_any n y B m c bs _ hB1.out hbH.out hyn (by omega) hn hm).mono ?_; rintro e w1 ⟨q, vR, vF, uR, uF, rfl, hN, hb1⟩; rw [hfvH.out]; have hb1H := Lib.hid hb1; have hs1 := hb1.size; clear hN hb1)
          go_roundg (n - (y + 1))
          case measure => omega
          case rel =>
            refine ⟨y + 1, bn, p, by omega, by omega, by go_num, rfl, Lib.hid (weakY_keep (by omega) hW.out hfvH.out hsdH.out hr0.out), Lib.hid ?_, Lib.hid (hbw.out.trans (hb1H.out.mono hsz))⟩
            rw [hNH.out]
            exact ownsRow_below hrow.out hb1H.out
        · have hgt' : ¬ ((fv : Int) > (bn : Int)) := hgt
          have take : ∀ (w1 w2 : World) (v2 : Value), r = true → Below wr.heap.size wr w1 → w2.ownsRow w1.heap.size 2 1 v2 M ((intsI sd).map (Value.int .i64)) → Below w1.heap.size w1 w2 →
              Hid (weakK n bs (y + 1 - 1) = ((fv : Int), sd)) ∧ Hid (w2.ownsRow w.heap.size 2 1 v2 (intsI sd).length ((intsI sd).map (Value.int .i64))) ∧ Hid (Below w.heap.size w w2) := fun w1 w2 v2 hr1 hb1 hrow2 hb2 => by
            have hs1 := hb1.size
            refine ⟨Lib.hid (weakY_take (by omega) hW.out hfvH.out hsdH.out (by rw [hrH.out, hr1])), Lib.hid ?_, Lib.hid (hbw.out.trans ((hb1.trans (hb2.mono hs1)).mono hsz))⟩
            rw [hMH.out]
            exact ownsRow_base hrow2 (by omega)
          have keep : ∀ (w1 w2 : World), r = false → Below wr.heap.size wr w1 → Below w1.heap.size w1 w2 →
              Hid (weakK n bs (y + 1 - 1) = ((bn : Int), p)) ∧ Hid (w2.ownsRow w.heap.size 2 1 (.slice A1 N c1) (intsI p).length ((intsI p).map (Value.int .i64))) ∧ Hid (Below w.heap.size w w2) := fun w1 w2 hr1 hb1 hb2 => by
            have hs1 := hb1.size
            have hall := hb1.trans (hb2.mono hs1)
            refine ⟨Lib.hid (weakY_keep (by omega) hW.out hfvH.out hsdH.out (by rw [hrH.out, hr1])), Lib.hid ?_, Lib.hid (hbw.out.trans (hall.mono hsz))⟩
            rw [hNH.out]
            exact ownsRow_below hrow.out hall
          have takeH := Lib.hid take
          have keepH := Lib.hid keep
          clear take keep
          by_cases hlt : (fv : Int) < (bn : Int)
          · have hr1 := Lib.hid (show r = true by rw [← hbeH.out, beforeI_ne (by omega)]; simpa using hlt)
            go_wp2_with (first
              | (go_at_call 46; refine (flowing0_any n y B m c bs _ hB1.out hbH.out hyn (by omega) hn hm).mono ?_; rintro e w1 ⟨q, vR, vF, uR, uF, rfl, hN, hb1⟩; rw [hfvH.out]; have hNH := Lib.hid hN; have hb1H := Lib.hid hb1; have hs1 := hb1.size; clear hN hb1)
              | (go_at_call 52; refine (leadingTo_any _ q n y _ _ vR vF uR uF _ hNH.out hyn hn).mono ?_; rw [hfe.out]; rintro e w2 ⟨v2, rfl, hrow2, hb2⟩; rw [show leadL n (edgeB bs (iterF n bs 0 y (flowV n bs 0 y))) y n = sd from hsdH.out, hMsH.out] at hrow2; have hrow2H := Lib.hid hrow2; have hb2H := Lib.hid hb2; clear hrow2 hb2))
            go_roundg (n - (y + 1))
            case measure => omega
            case rel => exact ⟨y + 1, fv, sd, by omega, by omega, by go_num, rfl, takeH.out _ _ _ hr1.out hb1H.out hrow2H.out hb2H.out⟩
          · obtain rfl : fv = bn := by omega
            by_cases hl1 : (M : Int) < (N : Int)
            · have hr1 := Lib.hid (show r = true by rw [← hbeH.out, beforeI_len (by rw [hMH.out, hNH.out]; omega), hMH.out, hNH.out]; simp; omega)
              go_wp2_with (first
                | (go_at_call 46; refine (flowing0_any n y B m c bs _ hB1.out hbH.out hyn (by omega) hn hm).mono ?_; rintro e w1 ⟨q, vR, vF, uR, uF, rfl, hN, hb1⟩; rw [hfvH.out]; have hNH := Lib.hid hN; have hb1H := Lib.hid hb1; have hs1 := hb1.size; clear hN hb1)
                | (go_at_call 52; refine (leadingTo_any _ q n y _ _ vR vF uR uF _ hNH.out hyn hn).mono ?_; rw [hfe.out]; rintro e w2 ⟨v2, rfl, hrow2, hb2⟩; rw [show leadL n (edgeB bs (iterF n bs 0 y (flowV n bs 0 y))) y n = sd from hsdH.out, hMsH.out] at hrow2; have hrow2H := Lib.hid hrow2; have hb2H := Lib.hid hb2; obtain ⟨A2, c2, rfl⟩ := ownsRow_form hrow2; clear hrow2 hb2))
              go_roundg (n - (y + 1))
              case measure => omega
              case rel => exact ⟨y + 1, fv, sd, by omega, by omega, by go_num, rfl, takeH.out _ _ _ hr1.out hb1H.out hrow2H.out hb2H.out⟩
            · by_cases hl2 : M = N
              · subst hl2
                have hlex : lexB (intsI sd) (intsI p) = r := by rw [← hbeH.out, beforeI_lex (by rw [hMH.out, hNH.out])]
                have hlexH := Lib.hid hlex
                clear hlex
                go_wp2_with (first
                  | (go_at_call 46; refine (flowing0_any n y B m c bs _ hB1.out hbH.out hyn (by omega) hn hm).mono ?_; rintro e w1 ⟨q, vR, vF, uR, uF, rfl, hN, hb1⟩; rw [hfvH.out]; have hNH := Lib.hid hN; have hb1H := Lib.hid hb1; have hs1 := hb1.size; clear hN hb1)
                  | (go_at_call 52; refine (leadingTo_any _ q n y _ _ vR vF uR uF _ hNH.out hyn hn).mono ?_; rw [hfe.out]; rintro e w2 ⟨v2, rfl, hrow2, hb2⟩; rw [show leadL n (edgeB bs (iterF n bs 0 y (flowV n bs 0 y))) y n = sd from hsdH.out, hMsH.out] at hrow2; have hrow2H := Lib.hid hrow2; have hb2H := Lib.hid hb2; obtain ⟨A2, c2, rfl⟩ := ownsRow_form hrow2; have hrd2H := Lib.hid (rdI hrow2 hMH.out.symm); clear hrow2 hb2)
                  | (go_at_call 82; refine (CompareI_any A2 A1 M c2 c1 (intsI sd) (intsI p) _ hrd2H.out (hrdH.out.below RInt.stable (hb1H.out.trans (hb2H.out.mono hs1))) (by omega) hlexH.out).mono ?_; rintro e w3 ⟨⟨x, rfl, hx⟩, hb3⟩; have hb3H := Lib.hid hb3; have hs2 := hb2H.out.size; clear hb3))
                · have hr1 := Lib.hid ‹r = true›
                  go_roundg (n - (y + 1))
                  case measure => omega
                  case rel => exact ⟨y + 1, fv, sd, by omega, by omega, by go_num, rfl, takeH.out _ _ _ hr1.out hb1H.out (ownsRow_below hrow2H.out hb3H.out) (hb2H.out.trans (hb3H.out.mono hs2))⟩
                · have hr1 := Lib.hid ‹r = false›
                  go_roundg (n - (y + 1))
                  case measure => omega
                  case rel => exact ⟨y + 1, fv, p, by omega, by omega, by go_num, rfl, keepH.out _ _ hr1.out hb1H.out (hb2H.out.trans (hb3H.out.mono hs2))⟩
              · have hr1 := Lib.hid (show r = false by rw [← hbeH.out, beforeI_len (by rw [hMH.out, hNH.out]; exact hl2), hMH.out, hNH.out]; simp; omega)
                have hl2d : ((M : Int) == (N : Int)) = false := by simp; omega
                go_wp2_with (first
                  | (go_at_call 46; refine (flowing0_any n y B m c bs _ hB1.out hbH.out hyn (by omega) hn hm).mono ?_; rintro e w1 ⟨q, vR, vF, uR, uF, rfl, hN, hb1⟩; rw [hfvH.out]; have hNH := Lib.hid hN; have hb1H := Lib.hid hb1; have hs1 := hb1.size; clear hN hb1)
                  | (go_at_call 52; refine (leadingTo_any _ q n y _ _ vR vF uR uF _ hNH.out hyn hn).mono ?_; rw [hfe.out]; rintro e w2 ⟨v2, rfl, hrow2, hb2⟩; rw [show leadL n (edgeB bs (iterF n bs 0 y (flowV n bs 0 y))) y n = sd from hsdH.out, hMsH.out] at hrow2; have hrow2H := Lib.hid hrow2; have hb2H := Lib.hid hb2; obtain ⟨A2, c2, rfl⟩ := ownsRow_form hrow2; clear hrow2 hb2))
                go_roundg (n - (y + 1))
                case measure => omega
                case rel => exact ⟨y + 1, fv, p, by omega, by omega, by go_num, rfl, keepH.out _ _ hr1.out hb1H.out hb2H.out⟩
    · obtain rfl : y = n := by omega
      go_wp2
      go_ret2
      refine ⟨.slice A1 (intsI p).length c1, ?_, ?_, hbw.out⟩
      · unfold weakR; rw [hW.out]; rfl
      · unfold weakR; rw [hW.out]; exact hrow.out
end Go.Proofs.YtmhgjgclclnmaaaGreat
/- Walks: groups that are merged by pointers to their leaders. -/


namespace Go.Proofs.YtmhgjgclclnmaaaGreat
open Go.RowKit Go.Shelf
attribute [local go_sem] BelowBy.cell BelowBy.cell_drew stillUpon givesUpon BelowBy.cell_drew2 BelowBy.cell_drew3

/-- the groups' elements lie in n blocks from Bg on; who leads whom -/
def Forest (w : World) (Bg n : Nat) (f : Nat → Nat) : Prop := ∀ i, i < n → Bg + i < w.heap.size ∧ w.cell? ⟨Bg + i, 1, none⟩ = some (.int .i64 (i : Int)) ∧ w.frozen? ⟨Bg + i, 0, none⟩ = false ∧
  ((f i = i ∧ w.cell? ⟨Bg + i, 0, none⟩ = some (.pointer none)) ∨ (f i ≠ i ∧ ∃ j, j < i ∧ f j = f i ∧ w.cell? ⟨Bg + i, 0, none⟩ = some (.pointer (some ⟨Bg + j, 0, none⟩))))
theorem Forest.below {w w' : World} {Bg n : Nat} {f : Nat → Nat} (h : Forest w Bg n f) (hb : Below w.heap.size w w') : Forest w' Bg n f := fun i hi => by
  obtain ⟨h1, h2, h3, h4⟩ := h i hi
  refine ⟨Nat.lt_of_lt_of_le h1 hb.size, (hb.cell (p := ⟨Bg + i, 1, none⟩) h1).trans h2, (hb.frozen (p := ⟨Bg + i, 0, none⟩) h1).trans h3, ?_⟩
  rcases h4 with ⟨h5, h6⟩ | ⟨h5, j, h6, h7, h8⟩
  · exact .inl ⟨h5, (hb.cell (p := ⟨Bg + i, 0, none⟩) h1).trans h6⟩
  · exact .inr ⟨h5, j, h6, h7, (hb.cell (p := ⟨Bg + i, 0, none⟩) h1).trans h8⟩
set_option maxHeartbeats 1000000 in
theorem first_any (Bg n i : Nat) (f : Nat → Nat) (w : World) (hF : Forest w Bg n f) (hi : i < n) :
    Calls Tryz.prog 201 #[.pointer (some ⟨Bg + i, 0, none⟩)] w fun e w' => e = .returned (.pointer (some ⟨Bg + f i, 0, none⟩)) ∧ w = w' := by
  have hH := Lib.hid hF
  clear hF
  go_enter Tryz.func201, Tryz.ntmps201
  go_wp2
  go_loopg [0] i (fun r x wr => ∃ j : Nat, j = r ∧ j < n ∧ Hid (f j = f i) ∧ x = .pointer (some ⟨Bg + j, 0, none⟩) ∧ w = wr)
  case atStart => exact ⟨i, rfl, hi, Lib.hid rfl, rfl, rfl⟩
  case round =>
    obtain ⟨j, rfl, hj, hfj, rfl, rfl⟩ := hrel
    obtain ⟨hl, h1, _, h⟩ := hH.out j hj
    rcases h with ⟨hr, hc⟩ | ⟨hr, j2, hj2, hf2, hc⟩
    · have hrH := Lib.hid hr
      clear hr
      go_wp2
      go_ret
      have hji : f i = j := by rw [← hfj.out, hrH.out]
      rw [hji]
      exact ⟨rfl, rfl⟩
    · have hfH := Lib.hid hf2
      clear hf2 hr
      go_wp2
      go_roundg j2
      case measure => omega
      case rel => exact ⟨j2, rfl, by omega, Lib.hid (hfH.out.trans hfj.out), rfl, rfl⟩
/-- a leader gets a leader -/
theorem Forest.led {w : World} {Bg n x y : Nat} {f : Nat → Nat} (h : Forest w Bg n f) (hL : Lab f) (hx : f x = x) (hy : f y = y) (hxy : x < y) (hyn : y < n) :
    Forest (w.setCell ⟨Bg + y, 0, none⟩ (.pointer (some ⟨Bg + x, 0, none⟩))) Bg n (fun k => if f k = y then x else f k) := fun i hi => by
  obtain ⟨h1, h2, h3, h4⟩ := h i hi
  have hfx : f x ≠ y := by omega
  refine ⟨by simpa using h1, ?_, by simpa using h3, ?_⟩
  · rw [World.cell?_setCell_other _ _ _ _ (by simp)]; exact h2
  · by_cases hiy : i = y
    · subst hiy
      refine .inr ⟨by simp only [hy, if_true]; omega, x, hxy, by simp only [hy, if_true, if_neg hfx]; exact hx, ?_⟩
      rcases h4 with ⟨_, h6⟩ | ⟨_, j, _, _, h8⟩
      · exact World.cell?_setCell_same _ _ _ h6
      · exact World.cell?_setCell_same _ _ _ h8
    · have hne : (⟨Bg + y, 0, none⟩ : Addr) ≠ ⟨Bg + i, 0, none⟩ := by simp; first | omega | done
      rw [World.cell?_setCell_other _ _ _ _ hne]
      rcases h4 with ⟨h5, h6⟩ | ⟨h5, j, h6, h7, h8⟩
      · have hi2 : f i ≠ y := by omega
        exact .inl ⟨by simp only [if_neg hi2]; exact h5, h6⟩
      · refine .inr ⟨?_, j, h6, by simp only [h7], h8⟩
        by_cases h9 : f i = y
        · simp only [if_pos h9]
          intro e
          rw [← e, hx] at h9
          omega
        · simp only [if_neg h9]; exact h5
end Go.Proofs.YtmhgjgclclnmaaaGreat
/- Maps from numbers to places that a call makes. -/



namespace Go.Proofs.YtmhgjgclclnmaaaGreat
open Go.RowKit Go.Shelf
open Go.Maps (Keyed)
/-- block b is a map from numbers to places: M; at most n were laid in -/
def IMap (w : World) (b n : Nat) (M : Nat → Option Nat) : Prop :=
  ∃ D : DataW Unit, w.ownsMap Tryz.prog 2 (plainElem Tryz.prog 3) b n D ∧ ∀ k : Nat, Maps.has D (.int .i64 (k : Int)) = (M k).isSome ∧ ∀ v, M k = some v → D.atKey (.int .i64 (k : Int)) (.lit (.int .i64 0)) = .lit (.int .i64 (v : Int))
theorem IMap.made (w : World) : IMap (w.alloc (.map #[] 0)) w.heap.size 0 (fun _ => none) :=
  ⟨_, World.ownsMap_made _ _ _ _, fun k => ⟨by simp [Maps.has], fun v h => by cases h⟩⟩
theorem IMap.lt {w : World} {b n : Nat} {M : Nat → Option Nat} (h : IMap w b n M) : b < w.heap.size := by
  obtain ⟨D, h, _⟩ := h
  exact h.lt
theorem IMap.block {w w' : World} {b n : Nat} {M : Nat → Option Nat} (h : IMap w b n M) (hb : w'.heap[b]? = w.heap[b]?) : IMap w' b n M := by
  obtain ⟨D, ⟨es, clock, hh, r⟩, h2⟩ := h
  exact ⟨D, ⟨es, clock, hb.trans hh, r⟩, h2⟩
theorem int_keyed_ : Keyed Tryz.prog 2 := Maps.int_keyed Tryz.underlying2
theorem zero_int_ (w : World) : (zeroValue 3).run Tryz.prog w = .ok (.int .i64 0) w := by kernel_rfl
theorem wf_small {k : Int} (h0 : 0 ≤ k) (h1 : k ≤ 1000000000) : (Lit.int .i64 k).wf = true := by
  simp [Lit.wf, IntKind.min, IntKind.max, IntKind.bits, IntKind.signed]; omega
theorem wpList_look_imap (w : World) {ops : Array Oper} {rest : List Oper} {o : Oper} {a : Act} {Q : Exit → Act → World → Prop}
    (hg : o.guard = none) (m x : Operand) (hop : o.op = Op.lookup 269 m x true) (b n : Nat) (M : Nat → Option Nat) (hm : a.eval m = .map (some b)) (h : IMap w b n M) (k : Nat) (hk : k ≤ 1000000000) (hx : a.eval x = .int .i64 (k : Int))
    (hK : ∀ c : Int, (∀ v, M k = some v → c = v) → wpList Tryz.prog ops Q rest (a.put o.dst (.tuple #[.int .i64 c, .bool (M k).isSome])) w) : wpList Tryz.prog ops Q (o :: rest) a w := by
  obtain ⟨D, hown, hat⟩ := h
  refine wpList_lookup_own_ok_int w hg m x 269 hop 2 3 .i64 int_keyed_ Tryz.underlying269 Tryz.underlying3 (zero_int_ w) b n D hm hown _ (.int .i64 (k : Int)) hx (Maps.keyOf_int_mk Tryz.underlying2 (wf_small (by omega) (by omega))) ?_
  intro c hc hw
  rw [(hat k).1]
  refine hK c (fun v hv => ?_)
  have := (hat k).2 v hv
  rw [hc] at this
  injection this with this
  injection this
theorem wpList_put_imap (w : World) {ops : Array Oper} {rest : List Oper} {o : Oper} {a : Act} {Q : Exit → Act → World → Prop}
    (hg : o.guard = none) (m x v : Operand) (hop : o.op = Op.mapUpdate 269 m x v) (b n : Nat) (M : Nat → Option Nat) (hm : a.eval m = .map (some b)) (h : IMap w b n M) (k u : Nat) (hk : k ≤ 1000000000) (hu : u ≤ 1000000000) (hn : n < maxLen) (hx : a.eval x = .int .i64 (k : Int)) (hv : a.eval v = .int .i64 (u : Int))
    (hK : ∀ w', IMap w' b (n + 1) (fun j => if j = k then some u else M j) → w.grownBy w' (some b) → wpList Tryz.prog ops Q rest (a.put o.dst undef) w') : wpList Tryz.prog ops Q (o :: rest) a w := by
  obtain ⟨D, hown, hat⟩ := h
  refine wpList_mapUpdate_own w hg m x v 269 hop _ _ int_keyed_ Tryz.underlying269 _ b n D hm hown hn _ _ _ hx hv (Maps.keyOf_int_mk Tryz.underlying2 (wf_small (by omega) (by omega))) _ [] (plainElem_int Tryz.underlying3 (wf_small (by omega) (by omega))) ?_
  intro w' h1 h2
  refine hK w' ⟨_, h1, fun j => ?_⟩ h2
  by_cases hj : j = k
  · subst hj
    simp only [if_true]
    refine ⟨Maps.has_put_same hown.isMap (by simp [WideAt.IsKeyLit]) _, fun v hv => ?_⟩
    injection hv with hv
    subst hv
    exact Maps.atKey_put_same hown.isMap (by simp [WideAt.IsKeyLit]) _ _
  · have hne : (Lit.int .i64 (j : Int)) ≠ .int .i64 (k : Int) := by
      intro e
      injection e with _ e
      omega
    rw [Maps.has_put_other hne]
    simp only [if_neg hj]
    refine ⟨(hat j).1, fun v hv => ?_⟩
    rw [Maps.atKey_put_other hne]
    exact (hat j).2 v hv
end Go.Proofs.YtmhgjgclclnmaaaGreat
/- Walks: the program's groups by bonds. -/




namespace Go.Proofs.YtmhgjgclclnmaaaGreat
open Go.RowKit Go.Shelf
attribute [local go_sem] BelowBy.cell BelowBy.cell_drew stillUpon givesUpon BelowBy.cell_drew2 BelowBy.cell_drew3

theorem Forest.blocks {w w' : World} {Bg n : Nat} {f : Nat → Nat} (h : Forest w Bg n f) (hk : ∀ i, i < n → w'.heap[Bg + i]? = w.heap[Bg + i]?) : Forest w' Bg n f := fun i hi => by
  obtain ⟨h1, h2, h3, h4⟩ := h i hi
  have hb := hk i hi
  have hlt : Bg + i < w'.heap.size := by
    have := Array.getElem?_eq_getElem h1
    rw [← hb] at this
    exact (Array.getElem?_eq_some_iff.1 this).1
  refine ⟨hlt, (World.cell?_of_block (w := w) (a := ⟨Bg + i, 1, none⟩) hb).trans h2, (World.frozen?_of_block (w := w) (a := ⟨Bg + i, 0, none⟩) hb).trans h3, ?_⟩
  rcases h4 with ⟨h5, h6⟩ | ⟨h5, j, h6, h7, h8⟩
  · exact .inl ⟨h5, (World.cell?_of_block (w := w) (a := ⟨Bg + i, 0, none⟩) hb).trans h6⟩
  · exact .inr ⟨h5, j, h6, h7, (World.cell?_of_block (w := w) (a := ⟨Bg + i, 0, none⟩) hb).trans h8⟩
theorem Forest.one {w : World} {Bg k : Nat} (h : Forest w Bg k fun j => j) (hs : w.heap.size = Bg + k) (T : TypeId) : Forest (w.alloc (.cells #[.pointer none, .int .i64 (k : Int)] T)) Bg (k + 1) fun j => j := fun i hi => by
  rcases Nat.lt_succ_iff_lt_or_eq.1 hi with hi | rfl
  · exact (h.below (bl_al (bl_refl _) _)) i hi
  · refine ⟨by simp; omega, ?_, ?_, .inl ⟨rfl, ?_⟩⟩
    all_goals (rw [← hs]; go_simp)
theorem Forest.setBelow {w : World} {Bg n : Nat} {f : Nat → Nat} (h : Forest w Bg n f) {p : Addr} (hp : p.block < Bg) (u : Value) : Forest (w.setCell p u) Bg n f :=
  h.blocks fun i _ => Below.heap_setCell _ _ _ _ (by omega)
theorem Forest.root {w : World} {Bg n r : Nat} {f : Nat → Nat} (h : Forest w Bg n f) (hr : f r = r) (hn : r < n) : w.cell? ⟨Bg + r, 0, none⟩ = some (.pointer none) := by
  obtain ⟨_, _, _, ⟨_, h⟩ | ⟨h, _⟩⟩ := h r hn
  · exact h
  · exact (h hr).elim
theorem relab_lt {f : Nat → Nat} {a b : Nat} (h : f a < f b) : relab f a b = fun k => if f k = f b then f a else f k := by
  funext k
  unfold relab
  rw [Nat.max_eq_right (Nat.le_of_lt h), Nat.min_eq_left (Nat.le_of_lt h)]
theorem relab_gt {f : Nat → Nat} {a b : Nat} (h : f b < f a) : relab f a b = fun k => if f k = f a then f b else f k := by
  funext k
  unfold relab
  rw [Nat.max_eq_left (Nat.le_of_lt h), Nat.min_eq_right (Nat.le_of_lt h)]
theorem relab_eq {f : Nat → Nat} {a b : Nat} (h : f a = f b) : relab f a b = f := by
  funext k
  unfold relab
  rw [h, Nat.max_self, Nat.min_self]
  split
  · rename_i e; exact e.symm
  · rfl
def intsN (l : List Nat) : List Value := l.map fun x => Value.int .i64 ((x : Nat) : Int)
theorem intsN_len (l : List Nat) : (intsN l).length = l.length := by simp [intsN]
def OwnGr (w : World) (gss : List (List Nat)) (e : Ending) (w' : World) : Prop := ∃ v us, e = .returned v ∧ Own2 w' w.heap.size 33 2 1 v us (gss.map intsN) ∧ Below w.heap.size w w'
theorem infoGp : (Tryz.prog.info? 265).map (fun i => (i.zero, i.size, i.bytes)) = some (some (.pointer none), 1, 8) := by kernel_rfl
theorem infoGs : (Tryz.prog.info? 33).map (fun i => (i.zero, i.size, i.bytes)) = some (some (.slice none 0 0), 1, 24) := by kernel_rfl
set_option maxRecDepth 100000 in
set_option maxHeartbeats 2000000 in
theorem groupsBy_any (n : Nat) (B : Option Addr) (m c : Nat) (bs : List Bd) (w : World) (hB : RdSl 3 RBd w B m bs) (hn : n ≤ 100000) (hm : m ≤ 1000000) (hbs : ∀ (k : Nat) (e : Bd), bs[k]? = some e → e.a < n ∧ e.b < n) :
    Calls Tryz.prog 174 #[.int .i64 (n : Int), .slice B m c] w (OwnGr w (groupsL (labOf bs m) n)) := by
  obtain ⟨i0, hi, hz0, hz1, hz2⟩ := info_parts infoGs
  obtain ⟨i1, hi', hz0', hz1', hz2'⟩ := info_parts infoI
  have hmk := fun W => run_makeN (P := Tryz.prog) 264 265 _ 1 8 Tryz.underlying264 infoGp n (by omega) (by omega) W
  have hmm := @run_makeMap Tryz.prog
  have hBH := Lib.hid hB
  have hbsH := Lib.hid hbs
  have hml := Lib.hid hB.len
  clear hB hbs
  go_enter Tryz.func174, Tryz.ntmps174
  go_wp2
  obtain ⟨Bg, hBg⟩ : ∃ Bg, Bg = w.heap.size + 1 := ⟨_, rfl⟩
  have hBgl : w.heap.size < Bg := by omega
  have hBgH := Lib.hid hBg
  clear hBg
  go_loopg [21] n (fun g i wr => ∃ (k : Nat) (f : Nat → Value), k + g = n ∧ i = .int .i64 (k : Int) ∧ Hid (Below w.heap.size w wr) ∧ Hid (wr.heap.size = Bg + k) ∧ Hid (wr.rowIs w.heap.size 265 n f) ∧ Hid (∀ j, j < k → f j = .pointer (some ⟨Bg + j, 0, none⟩)) ∧ Hid (Forest wr Bg k fun j => j))
  case atStart => exact ⟨0, _, by omega, rfl, Lib.hid (bl_al (bl_refl _) _), Lib.hid (by rw [hBgH.out]; simp), Lib.hid (by have := rowIs_make w #[.pointer none] n 265; simpa [Value.cells] using this), Lib.hid (fun j hj => by omega), Lib.hid (fun j hj => by omega)⟩
  case round =>
    obtain ⟨k, f, hk, rfl, hbw, hsz, hrow, hf, hFo⟩ := hrel
    by_cases hkn : k < n
    · have hc0 := hrow.out.cell hkn
      have hf0 := hrow.out.frozen k
      have hl0 := hrow.out.lt
      go_wp2
      go_roundg (n - (k + 1))
      case measure => omega
      case rel =>
        refine ⟨k + 1, _, by omega, by go_num, Lib.hid ?_, Lib.hid ?_, Lib.hid ((hrow.out.set k _).alloc _), Lib.hid fun j hj => ?_, Lib.hid (((hFo.out.setBelow (p := ⟨w.heap.size, k, none⟩) hBgl _).one (by simpa using hsz.out) _))⟩
        · exact (hbw.out.setCell (p := ⟨w.heap.size, k, none⟩) (Nat.le_refl _) _).alloc (by simp; omega) _
        · have := hsz.out
          simp; omega
        · rcases Nat.lt_succ_iff_lt_or_eq.1 hj with hj | rfl
          · show (if j = k then _ else f j) = _
            rw [if_neg (by omega)]; exact hf.out j hj
          · show (if j = j then _ else f j) = _
            rw [if_pos rfl, hsz.out]
    · obtain rfl : k = n := by omega
      have hrowK := Lib.hid (hrow.out.congr (g := fun j => .pointer (some ⟨Bg + j, 0, none⟩)) hf.out)
      have hszl : Bg ≤ wr.heap.size := by have := hsz.out; omega
      obtain ⟨wa, rfl⟩ : ∃ wa : World, wa = wr := ⟨_, rfl⟩
      clear hrow hf hsz
      go_wp2
      go_loopg [33] m (fun g i wr => ∃ (j : Nat), j + g = m ∧ i = .int .i64 (j : Int) ∧ Hid (Below w.heap.size w wr) ∧ Bg ≤ wr.heap.size ∧ Hid (wr.rowIs w.heap.size 265 k fun j => .pointer (some ⟨Bg + j, 0, none⟩)) ∧ Hid (Forest wr Bg k (labOf bs j)))
      case atStart => exact ⟨0, by omega, rfl, hbw, hszl, hrowK, hFo⟩
      case round =>
        clear hbw hszl hrowK hFo
        obtain ⟨j, hj, rfl, hbw, hszl, hrowK, hFo⟩ := hrel
        by_cases hjm : j < m
        · have hBw := hBH.out.below RBd.stable hbw.out
          obtain ⟨bb, ob, rfl, hbb, hbc⟩ := hBw.ptr (by omega)
          obtain ⟨e, he⟩ := hBw.get hjm
          obtain ⟨e0, e1, e2⟩ := hbc j e he
          obtain ⟨hea, heb⟩ := hbsH.out j e he
          have hlab := Lib.hid (labOf_succ he)
          have hLab := Lib.hid (Lab.of bs j)
          obtain ⟨f, hf⟩ : ∃ f, labOf bs j = f := ⟨_, rfl⟩
          rw [hf] at hFo hlab hLab
          have hla := hLab.out.le e.a
          have hlb := hLab.out.le e.b
          have hia := hLab.out.idem e.a
          have hib := hLab.out.idem e.b
          have a4 := hFo.out.root hia (by omega)
          have b4 := hFo.out.root hib (by omega)
          obtain ⟨a1, a2, a3, _⟩ := hFo.out (f e.a) (by omega)
          obtain ⟨b1, b2, b3, _⟩ := hFo.out (f e.b) (by omega)
          have ra := hrowK.out.cell (i := e.a) hea
          have rb := hrowK.out.cell (i := e.b) heb
          have hl0 := hrowK.out.lt
          have hiaH := Lib.hid hia
          have hibH := Lib.hid hib
          have hfH := Lib.hid hf
          clear hbc he hBw hf hia hib
          obtain ⟨la, hlaE⟩ : ∃ la, f e.a = la := ⟨_, rfl⟩
          obtain ⟨lb, hlbE⟩ : ∃ lb, f e.b = lb := ⟨_, rfl⟩
          rw [hlaE] at a1 a2 a3 a4 hla
          rw [hlbE] at b1 b2 b3 b4 hlb
          have hlaH := Lib.hid hlaE
          have hlbH := Lib.hid hlbE
          rcases Nat.lt_trichotomy la lb with hlt | heq | hgt
          · go_wp2
            refine wp_region_ord [(0, .q), (1, .q), (2, .q), (3, .q), (4, .q), (6, .q), (7, .q), (8, .q), (9, .q), (10, .q), (5, .g), (11, .g), (12, .q), (13, .q)] (by kernel_rfl) (by kernel_rfl) ?_
            simp only [pick, List.filterMap_cons, List.filterMap_nil, List.getElem?_toArray, List.getElem?_cons_zero, List.getElem?_cons_succ, Option.map_some]
            repeat (first
              | ((with_reducible refine wpD_p (fun K hK => ?_)); go_simp; refine hK _ ?_; clear hK K)
              | ((with_reducible refine wpD_q (fun K hK => ?_)); go_simp; (first | refine hK _ ?_ | (go_bits; refine hK _ ?_) | (go_bits; go_simp; refine hK _ ?_)); clear hK K)
              | ((with_reducible refine wpD_g (fun K hK => ?_)); go_simp; refine hK _ _ ?_; clear hK K)
              | ((with_reducible refine wpD_g (fun K hK => ?_)); go_simp; refine ⟨Grew.of_alloc _, hK _ _ ?_⟩; clear hK K)
              | ((with_reducible refine wpD_g (fun K hK => ?_)); go_simp; go_at_call 201; refine (first_any _ _ _ _ _ (hFo.out.below (by exact bel_)) (by omega)).mono ?_; rintro e _ ⟨rfl, rfl⟩; refine ⟨_, rfl, Below.refl _ _, hK _ _ ?_⟩; clear hK K))
            with_reducible refine wpD_nil ?_
            go_wp2
            refine wp_region_ord [(0, .q), (1, .q), (2, .q), (3, .q), (4, .q), (5, .q), (6, .q), (7, .q), (8, .q), (9, .q)] (by kernel_rfl) (by kernel_rfl) ?_
            simp only [pick, List.filterMap_cons, List.filterMap_nil, List.getElem?_toArray, List.getElem?_cons_zero, List.getElem?_cons_succ, Option.map_some]
            repeat (first | ((with_reducible refine wpD_p (fun K hK => ?_)); go_simp; refine hK _ ?_; clear hK K) | ((with_reducible refine wpD_q (fun K hK => ?_)); go_simp; (first | refine hK _ ?_ | (go_bits; refine hK _ ?_) | (go_bits; go_simp; refine hK _ ?_)); clear hK K))
            with_reducible refine wpD_nil ?_
            go_wp2
            go_roundg (m - (j + 1))
            case measure => omega
            case rel =>
              refine ⟨j + 1, by omega, by go_num, Lib.hid ?_, ?_, Lib.hid ?_, Lib.hid ?_⟩
              · exact (((hbw.out.setCell (p := ⟨Bg + lb, 0, none⟩) (by simp; omega) _).alloc (by simp; omega) _).drew).drew
              · simp; omega
              · exact ((hrowK.out.setOther (a := ⟨Bg + lb, 0, none⟩) (by simp; omega) _).alloc _).drew.drew
              · rw [hlab.out, relab_lt (by omega), hlaE, hlbE]
                exact (hFo.out.led hLab.out (x := la) (y := lb) (by rw [← hlaE]; exact hiaH.out) (by rw [← hlbE]; exact hibH.out) hlt (by omega)).below (by exact bel_)
          · subst heq
            go_wp2
            refine wp_region_ord [(0, .q), (1, .q), (2, .q), (3, .q), (4, .q), (6, .q), (7, .q), (8, .q), (9, .q), (10, .q), (5, .g), (11, .g), (12, .q), (13, .q)] (by kernel_rfl) (by kernel_rfl) ?_
            simp only [pick, List.filterMap_cons, List.filterMap_nil, List.getElem?_toArray, List.getElem?_cons_zero, List.getElem?_cons_succ, Option.map_some]
            repeat (first
              | ((with_reducible refine wpD_p (fun K hK => ?_)); go_simp; refine hK _ ?_; clear hK K)
              | ((with_reducible refine wpD_q (fun K hK => ?_)); go_simp; (first | refine hK _ ?_ | (go_bits; refine hK _ ?_) | (go_bits; go_simp; refine hK _ ?_)); clear hK K)
              | ((with_reducible refine wpD_g (fun K hK => ?_)); go_simp; refine hK _ _ ?_; clear hK K)
              | ((with_reducible refine wpD_g (fun K hK => ?_)); go_simp; refine ⟨Grew.of_alloc _, hK _ _ ?_⟩; clear hK K)
              | ((with_reducible refine wpD_g (fun K hK => ?_)); go_simp; go_at_call 201; refine (first_any _ _ _ _ _ (hFo.out.below (by exact bel_)) (by omega)).mono ?_; rintro e _ ⟨rfl, rfl⟩; refine ⟨_, rfl, Below.refl _ _, hK _ _ ?_⟩; clear hK K))
            with_reducible refine wpD_nil ?_
            go_wp2
            refine wp_region_ord [(0, .q), (1, .q), (2, .q), (3, .q), (4, .q), (5, .q), (6, .q), (7, .q), (8, .q), (9, .q)] (by kernel_rfl) (by kernel_rfl) ?_
            simp only [pick, List.filterMap_cons, List.filterMap_nil, List.getElem?_toArray, List.getElem?_cons_zero, List.getElem?_cons_succ, Option.map_some]
            repeat (first | ((with_reducible refine wpD_p (fun K hK => ?_)); go_simp; refine hK _ ?_; clear hK K) | ((with_reducible refine wpD_q (fun K hK => ?_)); go_simp; (first | refine hK _ ?_ | (go_bits; refine hK _ ?_) | (go_bits; go_simp; refine hK _ ?_)); clear hK K))
            with_reducible refine wpD_nil ?_
            go_wp2
            refine wp_region_ord [(0, .q), (1, .q), (2, .q), (3, .q), (4, .q), (5, .q), (6, .q), (7, .q), (8, .q), (9, .q)] (by kernel_rfl) (by kernel_rfl) ?_
            simp only [pick, List.filterMap_cons, List.filterMap_nil, List.getElem?_toArray, List.getElem?_cons_zero, List.getElem?_cons_succ, Option.map_some]
            repeat (first | ((with_reducible refine wpD_p (fun K hK => ?_)); go_simp; refine hK _ ?_; clear hK K) | ((with_reducible refine wpD_q (fun K hK => ?_)); go_simp; (first | refine hK _ ?_ | (go_bits; refine hK _ ?_) | (go_bits; go_simp; refine hK _ ?_)); clear hK K))
            with_reducible refine wpD_nil ?_
            go_wp2
            go_roundg (m - (j + 1))
            case measure => omega
            case rel =>
              refine ⟨j + 1, by omega, by go_num, Lib.hid ?_, ?_, Lib.hid ?_, Lib.hid ?_⟩
              · exact ((hbw.out.alloc (by omega) _).drew).drew.drew
              · simp; omega
              · exact (hrowK.out.alloc _).drew.drew.drew
              · rw [hlab.out, relab_eq (by omega)]
                exact hFo.out.below (by exact bel_)
          · go_wp2
            refine wp_region_ord [(0, .q), (1, .q), (2, .q), (3, .q), (4, .q), (6, .q), (7, .q), (8, .q), (9, .q), (10, .q), (5, .g), (11, .g), (12, .q), (13, .q)] (by kernel_rfl) (by kernel_rfl) ?_
            simp only [pick, List.filterMap_cons, List.filterMap_nil, List.getElem?_toArray, List.getElem?_cons_zero, List.getElem?_cons_succ, Option.map_some]
            repeat (first
              | ((with_reducible refine wpD_p (fun K hK => ?_)); go_simp; refine hK _ ?_; clear hK K)
              | ((with_reducible refine wpD_q (fun K hK => ?_)); go_simp; (first | refine hK _ ?_ | (go_bits; refine hK _ ?_) | (go_bits; go_simp; refine hK _ ?_)); clear hK K)
              | ((with_reducible refine wpD_g (fun K hK => ?_)); go_simp; refine hK _ _ ?_; clear hK K)
              | ((with_reducible refine wpD_g (fun K hK => ?_)); go_simp; refine ⟨Grew.of_alloc _, hK _ _ ?_⟩; clear hK K)
              | ((with_reducible refine wpD_g (fun K hK => ?_)); go_simp; go_at_call 201; refine (first_any _ _ _ _ _ (hFo.out.below (by exact bel_)) (by omega)).mono ?_; rintro e _ ⟨rfl, rfl⟩; refine ⟨_, rfl, Below.refl _ _, hK _ _ ?_⟩; clear hK K))
            with_reducible refine wpD_nil ?_
            go_wp2
            refine wp_region_ord [(0, .q), (1, .q), (2, .q), (3, .q), (4, .q), (5, .q), (6, .q), (7, .q), (8, .q), (9, .q)] (by kernel_rfl) (by kernel_rfl) ?_
            simp only [pick, List.filterMap_cons, List.filterMap_nil, List.getElem?_toArray, List.getElem?_cons_zero, List.getElem?_cons_succ, Option.map_some]
            repeat (first | ((with_reducible refine wpD_p (fun K hK => ?_)); go_simp; refine hK _ ?_; clear hK K) | ((with_reducible refine wpD_q (fun K hK => ?_)); go_simp; (first | refine hK _ ?_ | (go_bits; refine hK _ ?_) | (go_bits; go_simp; refine hK _ ?_)); clear hK K))
            with_reducible refine wpD_nil ?_
            have hgt' : ¬ la < lb := by omega
            go_wp2
            refine wp_region_ord [(0, .q), (1, .q), (2, .q), (3, .q), (4, .q), (5, .q), (6, .q), (7, .q), (8, .q), (9, .q)] (by kernel_rfl) (by kernel_rfl) ?_
            simp only [pick, List.filterMap_cons, List.filterMap_nil, List.getElem?_toArray, List.getElem?_cons_zero, List.getElem?_cons_succ, Option.map_some]
            repeat (first | ((with_reducible refine wpD_p (fun K hK => ?_)); go_simp; refine hK _ ?_; clear hK K) | ((with_reducible refine wpD_q (fun K hK => ?_)); go_simp; (first | refine hK _ ?_ | (go_bits; refine hK _ ?_) | (go_bits; go_simp; refine hK _ ?_)); clear hK K))
            with_reducible refine wpD_nil ?_
            go_wp2
            go_roundg (m - (j + 1))
            case measure => omega
            case rel =>
              refine ⟨j + 1, by omega, by go_num, Lib.hid ?_, ?_, Lib.hid ?_, Lib.hid ?_⟩
              · exact (((hbw.out.setCell (p := ⟨Bg + la, 0, none⟩) (by simp; omega) _).alloc (by simp; omega) _).drew).drew.drew
              · simp; omega
              · exact ((hrowK.out.setOther (a := ⟨Bg + la, 0, none⟩) (by simp; omega) _).alloc _).drew.drew.drew
              · rw [hlab.out, relab_gt (by omega), hlaE, hlbE]
                exact (hFo.out.led hLab.out (x := lb) (y := la) (by rw [← hlbE]; exact hibH.out) (by rw [← hlaE]; exact hiaH.out) hgt (by omega)).below (by exact bel_)
        · obtain rfl : j = m := by omega
          obtain ⟨f, hf⟩ : ∃ f, labOf bs j = f := ⟨_, rfl⟩
          have hLab := Lib.hid (Lab.of bs j)
          rw [hf] at hFo hLab
          have hfH := Lib.hid hf
          clear hf
          obtain ⟨wb, rfl⟩ : ∃ wb : World, wb = wr := ⟨_, rfl⟩
          have hwb : w.heap.size < wb.heap.size := by omega
          go_wp2
          go_loopg [81, 11] k (fun g i v wr => ∃ (t : Nat) (us : List Value), t + g = k ∧ i = .int .i64 (t : Int) ∧ Hid (Own2 wr (wb.heap.size + 1) 33 2 1 v us ((groupsL f t).map intsN)) ∧ Hid (∃ c, c ≤ t ∧ IMap wr wb.heap.size c (placeM f t)) ∧ Hid (Below wb.heap.size wb wr) ∧ wb.heap.size < wr.heap.size)
          case atStart => exact ⟨0, [], by omega, rfl, Lib.hid (Own2.nil _ _ _ _ _), Lib.hid ⟨0, Nat.le_refl _, by rw [placeM_zero]; exact IMap.made wb⟩, Lib.hid (bl_al (bl_refl _) _), by simp⟩
          case round =>
            obtain ⟨t, us, ht, rfl, hO, hM, hbq, hszq⟩ := hrel
            by_cases htk : t < k
            · have ra := (hbq.out.cell (p := ⟨w.heap.size, t, none⟩) hwb).trans (hrowK.out.cell (i := t) htk)
              have hl0 : w.heap.size < wr.heap.size := by omega
              have hle := hLab.out.le t
              have hid := Lib.hid (hLab.out.idem t)
              have hFq := Lib.hid (hFo.out.below hbq.out)
              obtain ⟨r, hr⟩ : ∃ r, f t = r := ⟨_, rfl⟩
              have hul : us.length = (rootsL f t).length := by rw [hO.out.len]; simp [groupsL]
              have hrl := rootsL_len f t
              have hulH := Lib.hid hul
              obtain ⟨A0, cap0, rfl⟩ := hO.out.form hul
              rw [hr] at hle
              obtain ⟨a1, a2, a3, _⟩ := hFq.out r (by omega)
              have hrH := Lib.hid hr
              obtain ⟨c0, hc0, hM0⟩ := hM.out
              have hM0 := Lib.hid hM0
              clear hul hM
              by_cases hrt : r = t
              · subst hrt
                have hno := Lib.hid (placeM_no (f := f) (m := r))
                have hns : (placeM f r r).isSome = false := by rw [hno.out]; rfl
                obtain ⟨p, hp⟩ : ∃ p, (rootsL f r).length = p := ⟨_, rfl⟩
                rw [hp] at hrl hO hulH ⊢
                have hpH := Lib.hid hp
                clear hp
                go_wp2_with (first
                  | (go_at_call 201; refine (first_any Bg k r f wr hFq.out htk).mono ?_; rintro e _ ⟨rfl, rfl⟩)
                  | (at_lookup; refine wpList_look_imap _ rfl _ _ rfl wb.heap.size c0 _ rfl hM0.out r (by omega) rfl ?_; intro c hc)
                  | (at_mapUpdate; refine wpList_put_imap _ rfl _ _ _ rfl wb.heap.size c0 _ rfl hM0.out r p (by omega) (by omega) (by unfold maxLen; omega) rfl rfl ?_; intro w1 hM1 hg1; have hM1H := Lib.hid hM1; have hO1 := Lib.hid (hO.out.keptBelow hg1 (by intro g e; injection e with e; omega)); have hs1 : wb.heap.size < w1.heap.size := Nat.lt_of_lt_of_le hszq hg1.size; clear hM1)
                  | (at_builtin; refine wpList_append_own_at _ rfl _ _ 63 rfl (wb.heap.size + 1) 33 i0 (.slice none 0 0) 1 24 Tryz.underlying63 hi hz0 hz1 hz2 rfl (by decide) _ p us rfl ((hO1.out.outerN hulH.out).alloc _) ⟨w1.heap.size, 0, none⟩ 1 1 [.slice none 0 0] rfl rfl (cell_one_new _ _ _) (fun x hx => by simp at hx; subst hx; rfl) (by unfold maxLen; omega) (by omega) (by simp; omega) ?_; intro v2 w2 hown2 hgrow2 _ hat2; have hO2 := (hO1.out.alloc _).push hulH.out (x := .slice none 0 0) (r := []) (n := 0) (World.ownsRow_nil _ _ _ _) (fun g e => by simp [Value.ownBlock] at e) hown2 hgrow2 hat2; have hN2 := Lib.hid (show (us ++ [Value.slice none 0 0]).length = p + 1 by simp [hulH.out]); have hu2 := Lib.hid (show (us ++ [Value.slice none 0 0])[p]? = some (.slice none 0 0) by rw [← hulH.out]; simp); obtain ⟨g2, cap2, rfl⟩ := hO2.formPos hN2.out (by omega); obtain ⟨q1, q2, q3⟩ := hO2.cellAt hN2.out hu2.out; have hO2 := Lib.hid hO2; have hbA := Lib.hid (below_app (B0 := wb.heap.size + 1) hs1 (fun g e => (hO1.out.lt g e).1) hgrow2); clear hown2 hgrow2 hat2)
                  | (at_builtin; refine wpList_append_own_at _ rfl _ _ 33 rfl (wb.heap.size + 1) 2 i1 (.int .i64 0) 1 8 Tryz.underlying33 hi' hz0' hz1' hz2' rfl (by decide) _ 0 [] rfl (World.ownsRow_nil _ _ _ _) ⟨w2.heap.size, 0, none⟩ 1 1 [.int .i64 (r : Int)] rfl rfl (cell_one_new _ _ _) (fun x hx => by simp at hx; subst hx; rfl) (by unfold maxLen; omega) (by omega) (by simp; have := hbA.out.size; omega) ?_; intro u3 w3 hown3 hgrow3 _ hat3; obtain ⟨g3, cap3, rfl⟩ := ownsRow_succ hown3; obtain ⟨z1, z2, z3, z4⟩ := (hO2.out.alloc _).after hN2.out hu2.out hgrow3; have hown3H := Lib.hid hown3; have hgrow3H := Lib.hid hgrow3; have hat3H := Lib.hid hat3; clear hown3 hgrow3 hat3))
                have hb3 := Lib.hid (below_app (B0 := wb.heap.size + 1) (W := w2) (row := none) (by have := hbA.out.size; omega) (fun g e => by cases e) hgrow3H.out)
                have hb1 := Lib.hid ((Below.refl wb.heap.size wr).grown hg1 (by omega) (fun g e => by injection e with e; omega))
                go_roundg (k - (r + 1))
                case measure => omega
                case rel =>
                  have hbF : Below (wb.heap.size + 1) w1 (w3.setCell ⟨g2, p, none⟩ (.slice (some ⟨g3, 0, none⟩) (0 + 1) cap3)) := (hbA.out.trans hb3.out).setCell (p := ⟨g2, p, none⟩) z4 _
                  refine ⟨r + 1, (us ++ [Value.slice none 0 0]).set p (.slice (some ⟨g3, 0, none⟩) (0 + 1) cap3), by omega, by go_num, Lib.hid ?_, Lib.hid ⟨c0 + 1, by omega, ?_⟩, Lib.hid ?_, ?_⟩
                  · have hF := (hO2.out.alloc _).grow hN2.out hu2.out hown3H.out hgrow3H.out hat3H.out
                    have hrw : ((groupsL f r).map intsN ++ [[]]).set p ([] ++ [Value.int .i64 (r : Int)]) = (groupsL f (r + 1)).map intsN := by
                      rw [groupsL_new hLab.out.le hrH.out, List.map_append, ← hpH.out, List.set_append_right _ _ (by simp [groupsL])]
                      simp [groupsL, intsN]
                    rw [hrw] at hF
                    exact hF
                  · rw [placeM_new hrH.out, hpH.out]
                    exact hM1H.out.block (hbF.block _ (by omega))
                  · exact hbq.out.trans (hb1.out.trans (hbF.mono (by omega)))
                  · exact Nat.lt_of_lt_of_le hs1 hbF.size
              · have hlt : r < t := by omega
                have hne : f t ≠ t := by rw [hrH.out]; exact hrt
                have hneH := Lib.hid hne
                have hidr : f r = r := by
                  have := hid.out
                  rw [hrH.out] at this
                  exact this
                obtain ⟨p, hp⟩ : ∃ p, (rootsL f r).length = p := ⟨_, rfl⟩
                have hpl := rootsL_lt hlt hidr
                have hgt := rootsL_at hlt hidr
                obtain ⟨N0, hN0⟩ : ∃ N0, (rootsL f t).length = N0 := ⟨_, rfl⟩
                rw [hN0] at hO hulH hrl hpl ⊢
                rw [hp] at hpl hgt
                obtain ⟨g2, cap2, hv⟩ := hO.out.formPos hulH.out (by omega)
                injection hv with hv1 hv2 hv3
                subst hv1 hv3
                clear hN0 hv2
                have hyes := Lib.hid (placeM_yes hlt hidr)
                have hys : (placeM f t r).isSome = true := by rw [hyes.out]; rfl
                have hpH := Lib.hid hp
                have hidrH := Lib.hid hidr
                obtain ⟨u, hu⟩ : ∃ u, us[p]? = some u := ⟨_, List.getElem?_eq_getElem (by rw [hulH.out]; exact hpl)⟩
                obtain ⟨n', r', hr', hown0⟩ := hO.out.get hu
                rw [List.getElem?_map, groupsL_get, hgt] at hr'
                simp only [Option.map_some, Option.some.injEq] at hr'
                subst hr'
                obtain ⟨A1, cap1, rfl⟩ := ownsRow_form hown0
                have huH := Lib.hid hu
                have hownH := Lib.hid hown0
                have hl' := hown0.1
                rw [intsN_len, Nat.mul_one] at hl'
                have hll : n' ≤ t := by
                  rw [← hl']
                  have := List.length_filter_le (fun k => f k == r) (List.range t)
                  simpa [partL] using this
                have hO2 := hO
                obtain ⟨q1, q2, q3⟩ := hO2.out.cellAt hulH.out hu
                clear hp hidr hu hown0 hl' hO hgt
                go_wp2_with (first
                  | (go_at_call 201; refine (first_any Bg k t f wr hFq.out htk).mono ?_; rintro e _ ⟨rfl, rfl⟩)
                  | (at_lookup; refine wpList_look_imap _ rfl _ _ rfl wb.heap.size c0 _ rfl hM0.out r (by omega) rfl ?_; intro c hc; obtain rfl := hc p (by rw [hyes.out, hpH.out]))
                  | (at_builtin; refine wpList_append_own_at _ rfl _ _ 33 rfl (wb.heap.size + 1) 2 i1 (.int .i64 0) 1 8 Tryz.underlying33 hi' hz0' hz1' hz2' rfl (by decide) _ n' (intsN (partL f t r)) rfl (hownH.out.alloc _) ⟨wr.heap.size, 0, none⟩ 1 1 [.int .i64 (t : Int)] rfl rfl (cell_one_new _ _ _) (fun x hx => by simp at hx; subst hx; rfl) (by unfold maxLen; omega) (by omega) (by simp; omega) ?_; intro u3 w3 hown3 hgrow3 _ hat3; obtain ⟨g3, cap3, rfl⟩ := ownsRow_succ hown3; obtain ⟨z1, z2, z3, z4⟩ := (hO2.out.alloc _).after hulH.out huH.out hgrow3; have hown3H := Lib.hid hown3; have hgrow3H := Lib.hid hgrow3; have hat3H := Lib.hid hat3; clear hown3 hgrow3 hat3))
                have hb3 := Lib.hid (below_app (B0 := wb.heap.size + 1) (W := wr) (by omega) (fun g e => (hownH.out.lt g e).1) hgrow3H.out)
                go_roundg (k - (t + 1))
                case measure => omega
                case rel =>
                  have hbF : Below (wb.heap.size + 1) wr (w3.setCell ⟨g2, p, none⟩ (.slice (some ⟨g3, 0, none⟩) (n' + 1) cap3)) := hb3.out.setCell (p := ⟨g2, p, none⟩) z4 _
                  refine ⟨t + 1, us.set p (.slice (some ⟨g3, 0, none⟩) (n' + 1) cap3), by omega, by go_num, Lib.hid ?_, Lib.hid ⟨c0, by omega, ?_⟩, Lib.hid ?_, ?_⟩
                  · have hF := (hO2.out.alloc _).grow hulH.out huH.out hown3H.out hgrow3H.out hat3H.out
                    have hrw : ((groupsL f t).map intsN).set p (intsN (partL f t r) ++ [Value.int .i64 (t : Int)]) = (groupsL f (t + 1)).map intsN := by
                      rw [groupsL_old hneH.out (by rw [hrH.out]; exact hlt) (by rw [hrH.out]; exact hidrH.out), hrH.out, hpH.out, List.map_set]
                      simp [intsN]
                    rw [hrw] at hF
                    exact hF
                  · rw [placeM_old hneH.out]
                    exact hM0.out.block (hbF.block _ (by omega))
                  · exact hbq.out.trans (hbF.mono (by omega))
                  · exact Nat.lt_of_lt_of_le hszq hbF.size
            · obtain rfl : t = k := by omega
              obtain ⟨A0, cap0, rfl⟩ := hO.out.form rfl
              go_wp2
              go_ret
              refine ⟨_, us, rfl, ?_, ?_⟩
              · rw [hfH.out]
                exact hO.out.rebase (by omega)
              · exact hbw.out.trans (hbq.out.mono (by omega))
end Go.Proofs.YtmhgjgclclnmaaaGreat
