/- Walks: the form of a signal cell and its state, by the program (printed by gen_sg12.py). -/
import Derived.Test.YtbipnnjkddffbaaSg11
namespace Go.Proofs.Ytbipnnjkddffbaa
open Go.RowKit
set_option linter.unusedSimpArgs false
set_option linter.unusedVariables false
attribute [local go_sem] BelowBy.cell BelowBy.cell_drew stillUpon givesUpon BelowBy.cell_drewS2 BelowBy.cell_drewS3

/-- the cells of a box -/
def BoxAt (W : World) (b : Nat) (l : List Value) : Prop := b < W.heap.size ∧ ∀ j u, l[j]? = some u → W.cell? ⟨b, j, none⟩ = some u
theorem BoxAt.below {W W' : World} {b : Nat} {l : List Value} (h : BoxAt W b l) (hb : Below W.heap.size W W') : BoxAt W' b l := ⟨Nat.lt_of_lt_of_le h.1 hb.size, fun j u hu => (hb.cell (p := ⟨b, j, none⟩) h.1).trans (h.2 j u hu)⟩
theorem box_step {w wc W : World} {a b c : Nat} {la lb lc : List Value} (h : Hid (Below w.heap.size w wc)) (h0 : Hid (BoxAt wc a la)) (h1 : Hid (BoxAt wc b lb)) (h2 : Hid (BoxAt wc c lc)) (hbn : Below wc.heap.size wc W) : Hid (Below w.heap.size w W) ∧ Hid (BoxAt W a la) ∧ Hid (BoxAt W b lb) ∧ Hid (BoxAt W c lc) :=
  ⟨Lib.hid (h.out.trans (hbn.mono h.out.size)), Lib.hid (h0.out.below hbn), Lib.hid (h1.out.below hbn), Lib.hid (h2.out.below hbn)⟩
theorem firesN_eq {ts : List Sti} {t : Nat} {e : Sti} (h : ts[t]? = some e) : firesN ts t = e.fires.length := by unfold firesN; rw [Int.toNat_natCast, h]
theorem vp_at {x y : Int} {v : Bool} {w : World} (h : validPt x y = v) :
    Calls Try.prog 73 #[.agg #[.int .i64 x, .int .i64 y]] w fun e w' => e = .returned (.bool v) ∧ Below w.heap.size w w' := by
  rw [← h]; exact ValidPoint_any _ _ _
theorem ix_at {i m : Int} {v : Bool} {w : World} (h0 : 0 ≤ m) (hm : m ≤ 140737488355328) (h : inB i 0 (m - 1) = v) :
    Calls Try.prog 74 #[.int .i64 i, .int .i64 m] w fun e w' => e = .returned (.bool v) ∧ w = w' := by
  rw [← h]; exact isIndex_any _ _ _ h0 hm
set_option maxRecDepth 100000 in
set_option maxHeartbeats 4000000 in
theorem formOk_any (G T C O B F : Option Addr) (n cg m ct q cc on oc bn bc fn fc : Nat) (tp : Int) (ts : List Sti) (c : Sc) (w : World) (hT : RdSl 4 RSti w T m ts) (hm : m ≤ 1073741824) (h1 : c.on.length = on) (h2 : c.bound.length = bn) (h3 : c.fired.length = fn) (b : Bool) (hb : formB ts c = b) :
    Calls Try.prog 32 #[.agg #[.slice G n cg, .slice T m ct, .int .i64 tp, .slice C q cc], .agg #[.int .i64 c.x, .int .i64 c.y, .int .i64 c.t, .slice O on oc, .slice B bn bc, .slice F fn fc]] w fun e w' => e = .returned (.bool b) ∧ Below w.heap.size w w' := by
  have hl := hT.len
  have hB := Lib.hid (show b = (validPt c.x c.y && (inB c.t 0 ((m : Int) - 1) && (decide (on = 4) && (decide (bn = 4) && decide (fn = firesN ts c.t))))) by rw [← hb, ← h1, ← h2, ← h3, ← hl]; rfl)
  have hTH := Lib.hid hT
  clear hb h1 h2 h3 hT
  obtain ⟨cx, hcx⟩ : ∃ cx, c.x = cx := ⟨_, rfl⟩
  obtain ⟨cy, hcy⟩ : ∃ cy, c.y = cy := ⟨_, rfl⟩
  obtain ⟨cz, hcz⟩ : ∃ cz, c.t = cz := ⟨_, rfl⟩
  rw [hcx, hcy, hcz] at hB ⊢
  clear hcx hcy hcz
  
  cases hv1 : validPt cx cy
  · have hv1H := Lib.hid hv1
    have hv2H : Hid (inB cz 0 ((m : Int) - 1) = inB cz 0 ((m : Int) - 1)) := Lib.hid rfl
    clear hv1
    have hr := Lib.hid (show b = false by rw [hB.out]; rw [hv1H.out]; rfl)
    go_enter Try.func32, Try.ntmps32
    go_wp2
    refine wp_region_ord [(0, .q), (1, .q), (2, .g), (3, .q), (4, .q), (5, .q), (6, .q), (7, .q), (8, .q), (9, .q), (10, .g), (11, .q), (12, .q), (13, .q), (14, .q), (15, .q), (16, .q), (17, .q), (18, .q), (19, .q), (20, .q), (21, .q), (22, .q), (23, .q), (24, .q), (25, .q), (26, .q), (27, .q), (28, .q), (29, .q), (30, .q), (31, .q), (32, .q), (33, .q), (34, .q), (35, .q), (36, .q), (37, .q), (38, .q), (39, .q)] (by kernel_rfl) (by kernel_rfl) ?_
    simp only [pick, List.filterMap_cons, List.filterMap_nil, List.getElem?_toArray, List.getElem?_cons_zero, List.getElem?_cons_succ, Option.map_some]
    repeat (first
      | ((with_reducible refine wpD_p (fun K hK => ?_)); go_simp; refine hK _ ?_; clear hK K)
      | ((with_reducible refine wpD_q (fun K hK => ?_)); go_simp; (first | refine hK _ ?_ | (go_bits; refine hK _ ?_) | (go_bits; go_simp; refine hK _ ?_)); clear hK K)
      | ((with_reducible refine wpD_g (fun K hK => ?_)); go_simp; refine hK _ _ ?_; clear hK K)
      | ((with_reducible refine wpD_g (fun K hK => ?_)); go_simp; refine ⟨Grew.of_alloc _, hK _ _ ?_⟩; clear hK K)
      | ((with_reducible refine wpD_g (fun K hK => ?_)); go_simp; refine ⟨Below.refl _ _, hK _ _ ?_⟩; clear hK K)
      | ((with_reducible refine wpD_g (fun K hK => ?_)); go_simp; go_at_call 73; refine (vp_at hv1H.out).mono ?_; rintro e w1 ⟨rfl, hb1⟩; refine ⟨_, rfl, hb1, hK _ _ ?_⟩; clear hK K; obtain ⟨chb1, fhb1, shb1, thb1⟩ := bcell hb1; (try have bhb10 := shb1 (w.heap.size) (by go_simp)); (try have bhb11 := shb1 (w.heap.size + 1) (by go_simp)))
      | ((with_reducible refine wpD_g (fun K hK => ?_)); go_simp; go_at_call 74; refine (ix_at (by omega) (by omega) hv2H.out).mono ?_; rintro e _ ⟨rfl, rfl⟩; refine ⟨_, rfl, Below.refl _ _, hK _ _ ?_⟩; clear hK K))
    with_reducible refine wpD_nil ?_
    go_wp2
    go_ret
    exact ⟨ret_bool hr.out.symm, by exact bel_⟩
  have hv1H := Lib.hid hv1
  clear hv1
  cases hv2 : inB cz 0 ((m : Int) - 1)
  · have hv2H := Lib.hid hv2
    clear hv2
    have hr := Lib.hid (show b = false by rw [hB.out]; rw [hv2H.out]; simp)
    go_enter Try.func32, Try.ntmps32
    go_wp2
    refine wp_region_ord [(0, .q), (1, .q), (2, .g), (3, .q), (4, .q), (5, .q), (6, .q), (7, .q), (8, .q), (9, .q), (10, .g), (11, .q), (12, .q), (13, .q), (14, .q), (15, .q), (16, .q), (17, .q), (18, .q), (19, .q), (20, .q), (21, .q), (22, .q), (23, .q), (24, .q), (25, .q), (26, .q), (27, .q), (28, .q), (29, .q), (30, .q), (31, .q), (32, .q), (33, .q), (34, .q), (35, .q), (36, .q), (37, .q), (38, .q), (39, .q)] (by kernel_rfl) (by kernel_rfl) ?_
    simp only [pick, List.filterMap_cons, List.filterMap_nil, List.getElem?_toArray, List.getElem?_cons_zero, List.getElem?_cons_succ, Option.map_some]
    repeat (first
      | ((with_reducible refine wpD_p (fun K hK => ?_)); go_simp; refine hK _ ?_; clear hK K)
      | ((with_reducible refine wpD_q (fun K hK => ?_)); go_simp; (first | refine hK _ ?_ | (go_bits; refine hK _ ?_) | (go_bits; go_simp; refine hK _ ?_)); clear hK K)
      | ((with_reducible refine wpD_g (fun K hK => ?_)); go_simp; refine hK _ _ ?_; clear hK K)
      | ((with_reducible refine wpD_g (fun K hK => ?_)); go_simp; refine ⟨Grew.of_alloc _, hK _ _ ?_⟩; clear hK K)
      | ((with_reducible refine wpD_g (fun K hK => ?_)); go_simp; refine ⟨Below.refl _ _, hK _ _ ?_⟩; clear hK K)
      | ((with_reducible refine wpD_g (fun K hK => ?_)); go_simp; go_at_call 73; refine (vp_at hv1H.out).mono ?_; rintro e w1 ⟨rfl, hb1⟩; refine ⟨_, rfl, hb1, hK _ _ ?_⟩; clear hK K; obtain ⟨chb1, fhb1, shb1, thb1⟩ := bcell hb1; (try have bhb10 := shb1 (w.heap.size) (by go_simp)); (try have bhb11 := shb1 (w.heap.size + 1) (by go_simp)))
      | ((with_reducible refine wpD_g (fun K hK => ?_)); go_simp; go_at_call 74; refine (ix_at (by omega) (by omega) hv2H.out).mono ?_; rintro e _ ⟨rfl, rfl⟩; refine ⟨_, rfl, Below.refl _ _, hK _ _ ?_⟩; clear hK K))
    with_reducible refine wpD_nil ?_
    go_wp2
    go_ret
    exact ⟨ret_bool hr.out.symm, by exact bel_⟩
  have hv2H := Lib.hid hv2
  clear hv2
  obtain ⟨t, rfl, htm⟩ : ∃ t : Nat, cz = t ∧ t < m := ⟨cz.toNat, by have := inB_true.1 hv2H.out; omega, by have := inB_true.1 hv2H.out; omega⟩
  obtain ⟨bt, ot, rfl, hbt, hct⟩ := hTH.out.ptr (by omega)
  obtain ⟨e, he⟩ := hTH.out.get htm
  obtain ⟨_, _, _, ⟨FA, fe, fec, k3, hFA⟩⟩ := hct t e he
  have hfe := Lib.hid (show firesN ts t = fe by rw [firesN_eq he, hFA.len])
  have l1 : bt ≤ w.heap.size := by omega
  have l4 : bt < w.heap.size + 1 + 1 := by omega
  clear hct he hFA
  
  by_cases h4 : on = 4
  rotate_left
  · have h4b : ((on : Int) == 4) = false := by simp; omega
    have hr := Lib.hid (show b = false by rw [hB.out]; rw [decide_eq_false h4]; simp)
    go_enter Try.func32, Try.ntmps32
    go_wp2
    refine wp_region_ord [(0, .q), (1, .q), (2, .g), (3, .q), (4, .q), (5, .q), (6, .q), (7, .q), (8, .q), (9, .q), (10, .g), (11, .q), (12, .q), (13, .q), (14, .q), (15, .q), (16, .q), (17, .q), (18, .q), (19, .q), (20, .q), (21, .q), (22, .q), (23, .q), (24, .q), (25, .q), (26, .q), (27, .q), (28, .q), (29, .q), (30, .q), (31, .q), (32, .q), (33, .q), (34, .q), (35, .q), (36, .q), (37, .q), (38, .q), (39, .q)] (by kernel_rfl) (by kernel_rfl) ?_
    simp only [pick, List.filterMap_cons, List.filterMap_nil, List.getElem?_toArray, List.getElem?_cons_zero, List.getElem?_cons_succ, Option.map_some]
    repeat (first
      | ((with_reducible refine wpD_p (fun K hK => ?_)); go_simp; refine hK _ ?_; clear hK K)
      | ((with_reducible refine wpD_q (fun K hK => ?_)); go_simp; (first | refine hK _ ?_ | (go_bits; refine hK _ ?_) | (go_bits; go_simp; refine hK _ ?_)); clear hK K)
      | ((with_reducible refine wpD_g (fun K hK => ?_)); go_simp; refine hK _ _ ?_; clear hK K)
      | ((with_reducible refine wpD_g (fun K hK => ?_)); go_simp; refine ⟨Grew.of_alloc _, hK _ _ ?_⟩; clear hK K)
      | ((with_reducible refine wpD_g (fun K hK => ?_)); go_simp; refine ⟨Below.refl _ _, hK _ _ ?_⟩; clear hK K)
      | ((with_reducible refine wpD_g (fun K hK => ?_)); go_simp; go_at_call 73; refine (vp_at hv1H.out).mono ?_; rintro e w1 ⟨rfl, hb1⟩; refine ⟨_, rfl, hb1, hK _ _ ?_⟩; clear hK K; obtain ⟨chb1, fhb1, shb1, thb1⟩ := bcell hb1; (try have bhb10 := shb1 (w.heap.size) (by go_simp)); (try have bhb11 := shb1 (w.heap.size + 1) (by go_simp)); (try have bhb12 := shb1 (bt) (by go_simp)))
      | ((with_reducible refine wpD_g (fun K hK => ?_)); go_simp; go_at_call 74; refine (ix_at (by omega) (by omega) hv2H.out).mono ?_; rintro e _ ⟨rfl, rfl⟩; refine ⟨_, rfl, Below.refl _ _, hK _ _ ?_⟩; clear hK K))
    with_reducible refine wpD_nil ?_
    go_wp2
    go_ret
    exact ⟨ret_bool hr.out.symm, by exact bel_⟩
  subst h4
  by_cases h5 : bn = 4
  rotate_left
  · have h5b : ((bn : Int) == 4) = false := by simp; omega
    have hr := Lib.hid (show b = false by rw [hB.out]; rw [decide_eq_false h5]; simp)
    go_enter Try.func32, Try.ntmps32
    go_wp2
    refine wp_region_ord [(0, .q), (1, .q), (2, .g), (3, .q), (4, .q), (5, .q), (6, .q), (7, .q), (8, .q), (9, .q), (10, .g), (11, .q), (12, .q), (13, .q), (14, .q), (15, .q), (16, .q), (17, .q), (18, .q), (19, .q), (20, .q), (21, .q), (22, .q), (23, .q), (24, .q), (25, .q), (26, .q), (27, .q), (28, .q), (29, .q), (30, .q), (31, .q), (32, .q), (33, .q), (34, .q), (35, .q), (36, .q), (37, .q), (38, .q), (39, .q)] (by kernel_rfl) (by kernel_rfl) ?_
    simp only [pick, List.filterMap_cons, List.filterMap_nil, List.getElem?_toArray, List.getElem?_cons_zero, List.getElem?_cons_succ, Option.map_some]
    repeat (first
      | ((with_reducible refine wpD_p (fun K hK => ?_)); go_simp; refine hK _ ?_; clear hK K)
      | ((with_reducible refine wpD_q (fun K hK => ?_)); go_simp; (first | refine hK _ ?_ | (go_bits; refine hK _ ?_) | (go_bits; go_simp; refine hK _ ?_)); clear hK K)
      | ((with_reducible refine wpD_g (fun K hK => ?_)); go_simp; refine hK _ _ ?_; clear hK K)
      | ((with_reducible refine wpD_g (fun K hK => ?_)); go_simp; refine ⟨Grew.of_alloc _, hK _ _ ?_⟩; clear hK K)
      | ((with_reducible refine wpD_g (fun K hK => ?_)); go_simp; refine ⟨Below.refl _ _, hK _ _ ?_⟩; clear hK K)
      | ((with_reducible refine wpD_g (fun K hK => ?_)); go_simp; go_at_call 73; refine (vp_at hv1H.out).mono ?_; rintro e w1 ⟨rfl, hb1⟩; refine ⟨_, rfl, hb1, hK _ _ ?_⟩; clear hK K; obtain ⟨chb1, fhb1, shb1, thb1⟩ := bcell hb1; (try have bhb10 := shb1 (w.heap.size) (by go_simp)); (try have bhb11 := shb1 (w.heap.size + 1) (by go_simp)); (try have bhb12 := shb1 (bt) (by go_simp)))
      | ((with_reducible refine wpD_g (fun K hK => ?_)); go_simp; go_at_call 74; refine (ix_at (by omega) (by omega) hv2H.out).mono ?_; rintro e _ ⟨rfl, rfl⟩; refine ⟨_, rfl, Below.refl _ _, hK _ _ ?_⟩; clear hK K))
    with_reducible refine wpD_nil ?_
    go_wp2
    go_ret
    exact ⟨ret_bool hr.out.symm, by exact bel_⟩
  subst h5
  by_cases h6 : fn = fe
  rotate_left
  · have h6b : ((fn : Int) == (fe : Int)) = false := by simp; omega
    have hr := Lib.hid (show b = false by rw [hB.out]; rw [hfe.out, decide_eq_false h6]; simp)
    go_enter Try.func32, Try.ntmps32
    go_wp2
    refine wp_region_ord [(0, .q), (1, .q), (2, .g), (3, .q), (4, .q), (5, .q), (6, .q), (7, .q), (8, .q), (9, .q), (10, .g), (11, .q), (12, .q), (13, .q), (14, .q), (15, .q), (16, .q), (17, .q), (18, .q), (19, .q), (20, .q), (21, .q), (22, .q), (23, .q), (24, .q), (25, .q), (26, .q), (27, .q), (28, .q), (29, .q), (30, .q), (31, .q), (32, .q), (33, .q), (34, .q), (35, .q), (36, .q), (37, .q), (38, .q), (39, .q)] (by kernel_rfl) (by kernel_rfl) ?_
    simp only [pick, List.filterMap_cons, List.filterMap_nil, List.getElem?_toArray, List.getElem?_cons_zero, List.getElem?_cons_succ, Option.map_some]
    repeat (first
      | ((with_reducible refine wpD_p (fun K hK => ?_)); go_simp; refine hK _ ?_; clear hK K)
      | ((with_reducible refine wpD_q (fun K hK => ?_)); go_simp; (first | refine hK _ ?_ | (go_bits; refine hK _ ?_) | (go_bits; go_simp; refine hK _ ?_)); clear hK K)
      | ((with_reducible refine wpD_g (fun K hK => ?_)); go_simp; refine hK _ _ ?_; clear hK K)
      | ((with_reducible refine wpD_g (fun K hK => ?_)); go_simp; refine ⟨Grew.of_alloc _, hK _ _ ?_⟩; clear hK K)
      | ((with_reducible refine wpD_g (fun K hK => ?_)); go_simp; refine ⟨Below.refl _ _, hK _ _ ?_⟩; clear hK K)
      | ((with_reducible refine wpD_g (fun K hK => ?_)); go_simp; go_at_call 73; refine (vp_at hv1H.out).mono ?_; rintro e w1 ⟨rfl, hb1⟩; refine ⟨_, rfl, hb1, hK _ _ ?_⟩; clear hK K; obtain ⟨chb1, fhb1, shb1, thb1⟩ := bcell hb1; (try have bhb10 := shb1 (w.heap.size) (by go_simp)); (try have bhb11 := shb1 (w.heap.size + 1) (by go_simp)); (try have bhb12 := shb1 (bt) (by go_simp)))
      | ((with_reducible refine wpD_g (fun K hK => ?_)); go_simp; go_at_call 74; refine (ix_at (by omega) (by omega) hv2H.out).mono ?_; rintro e _ ⟨rfl, rfl⟩; refine ⟨_, rfl, Below.refl _ _, hK _ _ ?_⟩; clear hK K))
    with_reducible refine wpD_nil ?_
    go_wp2
    go_ret
    exact ⟨ret_bool hr.out.symm, by exact bel_⟩
  subst h6
  have hr := Lib.hid (show b = true by rw [hB.out]; rw [hfe.out, hv1H.out, hv2H.out]; simp)
  go_enter Try.func32, Try.ntmps32
  go_wp2
  refine wp_region_ord [(0, .q), (1, .q), (2, .g), (3, .q), (4, .q), (5, .q), (6, .q), (7, .q), (8, .q), (9, .q), (10, .g), (11, .q), (12, .q), (13, .q), (14, .q), (15, .q), (16, .q), (17, .q), (18, .q), (19, .q), (20, .q), (21, .q), (22, .q), (23, .q), (24, .q), (25, .q), (26, .q), (27, .q), (28, .q), (29, .q), (30, .q), (31, .q), (32, .q), (33, .q), (34, .q), (35, .q), (36, .q), (37, .q), (38, .q), (39, .q)] (by kernel_rfl) (by kernel_rfl) ?_
  simp only [pick, List.filterMap_cons, List.filterMap_nil, List.getElem?_toArray, List.getElem?_cons_zero, List.getElem?_cons_succ, Option.map_some]
  repeat (first
    | ((with_reducible refine wpD_p (fun K hK => ?_)); go_simp; refine hK _ ?_; clear hK K)
    | ((with_reducible refine wpD_q (fun K hK => ?_)); go_simp; (first | refine hK _ ?_ | (go_bits; refine hK _ ?_) | (go_bits; go_simp; refine hK _ ?_)); clear hK K)
    | ((with_reducible refine wpD_g (fun K hK => ?_)); go_simp; refine hK _ _ ?_; clear hK K)
    | ((with_reducible refine wpD_g (fun K hK => ?_)); go_simp; refine ⟨Grew.of_alloc _, hK _ _ ?_⟩; clear hK K)
    | ((with_reducible refine wpD_g (fun K hK => ?_)); go_simp; refine ⟨Below.refl _ _, hK _ _ ?_⟩; clear hK K)
    | ((with_reducible refine wpD_g (fun K hK => ?_)); go_simp; go_at_call 73; refine (vp_at hv1H.out).mono ?_; rintro e w1 ⟨rfl, hb1⟩; refine ⟨_, rfl, hb1, hK _ _ ?_⟩; clear hK K; obtain ⟨chb1, fhb1, shb1, thb1⟩ := bcell hb1; (try have bhb10 := shb1 (w.heap.size) (by go_simp)); (try have bhb11 := shb1 (w.heap.size + 1) (by go_simp)); (try have bhb12 := shb1 (bt) (by go_simp)))
    | ((with_reducible refine wpD_g (fun K hK => ?_)); go_simp; go_at_call 74; refine (ix_at (by omega) (by omega) hv2H.out).mono ?_; rintro e _ ⟨rfl, rfl⟩; refine ⟨_, rfl, Below.refl _ _, hK _ _ ?_⟩; clear hK K))
  with_reducible refine wpD_nil ?_
  go_wp2
  go_ret
  exact ⟨ret_bool hr.out.symm, by exact bel_⟩
/-- what a cell's state leans on, at hand -/
theorem cellB_fire {ts : List Sti} {cs : List Sc} {c : Sc} {e : Sti} {k : Nat} (he : tileC ts c = e) (hk : k < e.fires.length) (h : fireC e c k = false) : cellB ts cs c = false := by unfold cellB; rw [he, allB_false hk h]; rfl
theorem cellB_dir {ts : List Sti} {cs : List Sc} {c : Sc} {e : Sti} {k : Nat} (he : tileC ts c = e) (hk : k < 4) (h : dirC ts cs e c k = false) : cellB ts cs c = false := by unfold cellB; rw [he, allB_false hk h, Bool.and_false]
theorem cellB_ok {ts : List Sti} {cs : List Sc} {c : Sc} {e : Sti} (he : tileC ts c = e) (h1 : ∀ j, j < e.fires.length → fireC e c j = true) (h2 : ∀ j, j < 4 → dirC ts cs e c j = true) : cellB ts cs c = true := by unfold cellB; rw [he, allB_true h1, allB_true h2]; rfl
set_option maxRecDepth 100000 in
set_option maxHeartbeats 8000000 in
theorem cellOk_any (G T C O B F : Option Addr) (n cg m ct q cc oc bc fn fc : Nat) (tp : Int) (gs : List Gl) (ts : List Sti) (cs : List Sc) (c : Sc) (i : Nat) (w : World) (hT : RdSl 4 RSti w T m ts) (hC : RdSl 6 RSc w C q cs) (hV : CellsV gs ts cs) (hi : cs[i]? = some c) (hc : ScRd w O B F fn c) :
    Calls Try.prog 36 #[.agg #[.slice G n cg, .slice T m ct, .int .i64 tp, .slice C q cc], .agg #[.int .i64 c.x, .int .i64 c.y, .int .i64 c.t, .slice O 4 oc, .slice B 4 bc, .slice F fn fc]] w fun e w' => e = .returned (.bool (cellB ts cs c)) ∧ Below w.heap.size w w' := by
  obtain ⟨⟨hx1, hx2⟩, hy1, hy2⟩ := hV.V.pt i (scPl c) (plsOf_get hi)
  simp only [scPl] at hx1 hx2 hy1 hy2
  obtain ⟨_, _, t, e, hct, het, hfl⟩ := hV.cell i c hi
  obtain ⟨s4, o4, f6, hfi⟩ := hV.tile t e het
  have hfiH := Lib.hid hfi
  have hTc := Lib.hid (tileC_eq hct het)
  have htm : t < m := by rw [← hT.len]; exact lt_of_get het
  have hiq : i < q := by rw [← hC.len]; exact lt_of_get hi
  obtain ⟨bt, ot, rfl, hbt, hctx⟩ := hT.ptr (by omega)
  obtain ⟨t0, ⟨SA, sn, sc, t1, hS⟩, ⟨OA, tn, tc, t2, hO⟩, ⟨FA, fe, fec, t3, hFA⟩⟩ := hctx t e het
  rw [hO.len] at o4
  rw [hFA.len] at f6 hfl
  rw [hc.fired.len] at hfl
  subst o4 hfl
  have hO4 := Lib.hid hO
  have hFA4 := Lib.hid hFA
  have hfeL := Lib.hid hFA.len
  have hcH := Lib.hid hc
  have hTH := Lib.hid hT
  have hCH := Lib.hid hC
  have hVH := Lib.hid hV
  have hiH := Lib.hid hi
  have hctH := Lib.hid hct
  rw [hct]
  have l1 : bt ≤ w.heap.size := by omega
  have l4 : bt < w.heap.size + 1 + 1 := by omega
  clear hctx hS hO hFA hT hC hV hi hct het hfi hc
  go_enter Try.func36, Try.ntmps36
  go_wp2
  go_loopg [22] fn (fun r x wr => ∃ k : Nat, k + r = fn ∧ x = .int .i64 (k : Int) ∧ Hid (∀ j, j < k → fireC e c j = true) ∧ Hid (Below w.heap.size w wr) ∧ Hid (BoxAt wr w.heap.size [.slice G n cg, .slice (some ⟨bt, ot, none⟩) m ct, .int .i64 tp, .slice C q cc]) ∧ Hid (BoxAt wr (w.heap.size + 1) [.int .i64 c.x, .int .i64 c.y, .int .i64 t, .slice O 4 oc, .slice B 4 bc, .slice F fn fc]) ∧ Hid (BoxAt wr (w.heap.size + 1 + 1) [.string e.name, .slice SA sn sc, .slice OA 4 tc, .slice FA fn fec]))
  case atStart => exact ⟨0, by omega, rfl, Lib.hid (fun j hj => by omega), Lib.hid (by exact bel_), Lib.hid ⟨by simp; omega, fun j u hu => by match j, hu with
      | 0, hu | 1, hu | 2, hu | 3, hu => simp at hu; subst hu; go_simp
      | j + 4, hu => simp at hu⟩, Lib.hid ⟨by simp, fun j u hu => by match j, hu with
      | 0, hu | 1, hu | 2, hu | 3, hu | 4, hu | 5, hu => simp at hu; subst hu; go_simp
      | j + 6, hu => simp at hu⟩, Lib.hid ⟨by simp, fun j u hu => by match j, hu with
      | 0, hu | 1, hu | 2, hu | 3, hu => simp at hu; subst hu; go_simp
      | j + 4, hu => simp at hu⟩⟩
  case round =>
    obtain ⟨k, hk, rfl, hok, hbw, hb0, hb1x, hb2x⟩ := hrel
    have lw := hb2x.out.1
    by_cases hkn : k < fn
    · obtain ⟨bf, of, rfl, hbf, hcf⟩ := (hFA4.out.below RFi.stable hbw.out).ptr (by omega)
      obtain ⟨f, hf⟩ := hFA4.out.get hkn
      obtain ⟨a, a2, hfa, hfa2, ha4, ha24⟩ := hfiH.out k f hf
      obtain ⟨f0, f1⟩ := hcf k f hf
      rw [hfa] at f0
      have hcw := hcH.out.below hbw.out
      obtain ⟨bF, oF, rfl, hbF, hcF⟩ := hcw.fired.ptr (by omega)
      obtain ⟨bB, oB, rfl, hbB, hcB⟩ := hcw.bound.ptr (by omega)
      obtain ⟨vF, hvF⟩ := hcw.fired.get hkn
      obtain ⟨vB, hvB⟩ := hcw.bound.get ha4
      have cF := hcF k vF hvF
      have cB := hcB a vB hvB
      unfold RBool at cF cB
      simp only [Nat.mul_one] at cF cB
      have hq := Lib.hid (show fireC e c k = !(vF && !vB) by rw [fireC_eq hf, onAt_eq hvF, hfa, onAt_eq hvB])
      have x3 := hb1x.out.2 3 _ rfl
      have x4 := hb1x.out.2 4 _ rfl
      have x5 := hb1x.out.2 5 _ rfl
      have ha4I : (a : Int) < 4 := by omega
      have lw1 := hb1x.out.1
      have m1 : bF ≤ wr.heap.size := by omega
      have m2 : bB ≤ wr.heap.size := by omega
      have m3 : w.heap.size + 1 ≤ wr.heap.size := by omega
      have m4 : bf ≤ wr.heap.size := by omega
      clear hcf hf hcF hcB hvF hvB hcw hfa hfa2
      cases vF

      · have hr := Lib.hid (show fireC e c k = true by rw [hq.out]; rfl)
        go_wp2
        go_roundg (fn - (k + 1))
        case measure => omega
        case rel =>
          have hbn := bl_al (bl_refl wr) (Obj.cells #[.int .i64 a, .int .i64 f.t] 141)
          exact ⟨k + 1, by omega, by go_num, Lib.hid fun j hj => (by rcases Nat.lt_succ_iff_lt_or_eq.1 hj with hj | rfl; exact hok.out j hj; exact hr.out), Lib.hid (hbw.out.trans (hbn.mono hbw.out.size)), Lib.hid (hb0.out.below hbn), Lib.hid (hb1x.out.below hbn), Lib.hid (hb2x.out.below hbn)⟩
      · cases vB
        · have hr := Lib.hid (cellB_fire (cs := cs) hTc.out (by rw [hfeL.out]; exact hkn) (show fireC e c k = false by rw [hq.out]; rfl))
          go_wp2
          go_ret
          exact ⟨ret_bool hr.out.symm, by have := hbw.out; exact bel_⟩
        · have hr := Lib.hid (show fireC e c k = true by rw [hq.out]; rfl)
          go_wp2
          go_roundg (fn - (k + 1))
          case measure => omega
          case rel =>
            have hbn := bl_al (bl_refl wr) (Obj.cells #[.int .i64 a, .int .i64 f.t] 141)
            exact ⟨k + 1, by omega, by go_num, Lib.hid fun j hj => (by rcases Nat.lt_succ_iff_lt_or_eq.1 hj with hj | rfl; exact hok.out j hj; exact hr.out), Lib.hid (hbw.out.trans (hbn.mono hbw.out.size)), Lib.hid (hb0.out.below hbn), Lib.hid (hb1x.out.below hbn), Lib.hid (hb2x.out.below hbn)⟩
    · obtain rfl : k = fn := by omega
      obtain ⟨wa, hwa⟩ : ∃ wa : World, wa = wr := ⟨_, rfl⟩
      subst hwa
      have hokF := hok
      clear hok hkn
      go_wp2
      go_loopg [42] 4 (fun r x wr => ∃ d : Nat, d + r = 4 ∧ x = .int .i64 (d : Int) ∧ Hid (∀ j, j < d → dirC ts cs e c j = true) ∧ Hid (Below w.heap.size w wr) ∧ Hid (BoxAt wr w.heap.size [.slice G n cg, .slice (some ⟨bt, ot, none⟩) m ct, .int .i64 tp, .slice C q cc]) ∧ Hid (BoxAt wr (w.heap.size + 1) [.int .i64 c.x, .int .i64 c.y, .int .i64 t, .slice O 4 oc, .slice B 4 bc, .slice F k fc]) ∧ Hid (BoxAt wr (w.heap.size + 1 + 1) [.string e.name, .slice SA sn sc, .slice OA 4 tc, .slice FA k fec]))
      case atStart => exact ⟨0, by omega, rfl, Lib.hid (fun j hj => by omega), hbw, hb0, hb1x, hb2x⟩
      case round =>
        clear hbw hb0 hb1x hb2x lw
        obtain ⟨d, hd, rfl, hok, hbw, hb0, hb1x, hb2x⟩ := hrel
        have lw := hb2x.out.1
        have lw1 := hb1x.out.1
        have lw0 := hb0.out.1
        by_cases hd4 : d < 4
        · have y3 := hb2x.out.2 3 _ rfl
          have hdI : (d : Int) < 4 := by omega
          obtain ⟨wb, hwb⟩ : ∃ wb : World, wb = wr := ⟨_, rfl⟩
          subst hwb
          go_wp2
          clear y3
          go_loopg [9, 48] k (fun r v x wr => ∃ j : Nat, j + r = k ∧ x = .int .i64 (j : Int) ∧ v = .bool (firedTo e c d j) ∧ Hid (Below w.heap.size w wr) ∧ Hid (BoxAt wr w.heap.size [.slice G n cg, .slice (some ⟨bt, ot, none⟩) m ct, .int .i64 tp, .slice C q cc]) ∧ Hid (BoxAt wr (w.heap.size + 1) [.int .i64 c.x, .int .i64 c.y, .int .i64 t, .slice O 4 oc, .slice B 4 bc, .slice F k fc]) ∧ Hid (BoxAt wr (w.heap.size + 1 + 1) [.string e.name, .slice SA sn sc, .slice OA 4 tc, .slice FA k fec]))
          case atStart => exact ⟨0, by omega, rfl, by rw [firedTo_0], hbw, hb0, hb1x, hb2x⟩
          case round =>
            clear hbw hb0 hb1x hb2x lw lw1 lw0
            obtain ⟨j, hj, rfl, rfl, hbw, hb0, hb1x, hb2x⟩ := hrel
            have lw := hb2x.out.1
            have lw1 := hb1x.out.1
            have lw0 := hb0.out.1
            by_cases hjk : j < k
            · obtain ⟨bf, of, rfl, hbf, hcf⟩ := (hFA4.out.below RFi.stable hbw.out).ptr (by omega)
              obtain ⟨f, hf⟩ := hFA4.out.get hjk
              obtain ⟨f0, f1⟩ := hcf j f hf
              have hcw := hcH.out.below hbw.out
              obtain ⟨bF, oF, rfl, hbF, hcF⟩ := hcw.fired.ptr (by omega)
              obtain ⟨vF, hvF⟩ := hcw.fired.get hjk
              have cF := hcF j vF hvF
              unfold RBool at cF
              simp only [Nat.mul_one] at cF
              have hq := Lib.hid (show firedTo e c d (j + 1) = (firedTo e c d j || (decide (f.t = d) && vF)) by rw [firedTo_S hf, onAt_eq hvF])
              have x5 := hb1x.out.2 5 _ rfl
              have m1 : bF ≤ wr.heap.size := by omega
              have m3 : w.heap.size + 1 ≤ wr.heap.size := by omega
              have m4 : bf ≤ wr.heap.size := by omega
              clear hcf hf hcF hvF hcw
              obtain ⟨ft, hft⟩ : ∃ ft, f.t = ft := ⟨_, rfl⟩
              rw [hft] at f1 hq
              obtain ⟨fq, hfq⟩ : ∃ fq, firedTo e c d j = fq := ⟨_, rfl⟩
              rw [hfq] at hq ⊢
              clear hfq
              cases fq

              · by_cases hfd : ft = d
                · have hfd1 : (ft == (d : Int)) = true := by simpa using hfd
                  have hfdH := Lib.hid (decide_eq_true hfd)
                  clear hfd
                  cases vF
                  · go_wp2
                    go_roundg (k - (j + 1))
                    case measure => omega
                    case rel =>
                      have hbn := bl_al (bl_refl wr) (Obj.cells #[.int .i64 f.f, .int .i64 ft] 141)
                      exact ⟨j + 1, by omega, by go_num, by rw [hq.out, hfdH.out]; rfl, Lib.hid (hbw.out.trans (hbn.mono hbw.out.size)), Lib.hid (hb0.out.below hbn), Lib.hid (hb1x.out.below hbn), Lib.hid (hb2x.out.below hbn)⟩
                  · go_wp2
                    go_roundg (k - (j + 1))
                    case measure => omega
                    case rel =>
                      have hbn := bl_al (bl_refl wr) (Obj.cells #[.int .i64 f.f, .int .i64 ft] 141)
                      exact ⟨j + 1, by omega, by go_num, by rw [hq.out, hfdH.out]; rfl, Lib.hid (hbw.out.trans (hbn.mono hbw.out.size)), Lib.hid (hb0.out.below hbn), Lib.hid (hb1x.out.below hbn), Lib.hid (hb2x.out.below hbn)⟩
                · have hfd2 : (ft == (d : Int)) = false := by simpa using hfd
                  go_wp2
                  go_roundg (k - (j + 1))
                  case measure => omega
                  case rel =>
                    have hbn := bl_al (bl_refl wr) (Obj.cells #[.int .i64 f.f, .int .i64 ft] 141)
                    exact ⟨j + 1, by omega, by go_num, by rw [hq.out]; simp [hfd], Lib.hid (hbw.out.trans (hbn.mono hbw.out.size)), Lib.hid (hb0.out.below hbn), Lib.hid (hb1x.out.below hbn), Lib.hid (hb2x.out.below hbn)⟩
              · go_wp2
                go_roundg (k - (j + 1))
                case measure => omega
                case rel =>
                  have hbn := bl_al (bl_refl wr) (Obj.cells #[.int .i64 f.f, .int .i64 ft] 141)
                  exact ⟨j + 1, by omega, by go_num, by rw [hq.out]; simp, Lib.hid (hbw.out.trans (hbn.mono hbw.out.size)), Lib.hid (hb0.out.below hbn), Lib.hid (hb1x.out.below hbn), Lib.hid (hb2x.out.below hbn)⟩
            · obtain rfl : j = k := by omega
              obtain ⟨wc, hwc⟩ : ∃ wc : World, wc = wr := ⟨_, rfl⟩
              subst hwc
              clear hjk
              obtain ⟨vq, hvq⟩ : ∃ vq, firedTo e c d j = vq := ⟨_, rfl⟩
              rw [hvq]
              have hcw := hcH.out.below hbw.out
              obtain ⟨bO, oO, rfl, hbO, hcO⟩ := hcw.on.ptr (by omega)
              obtain ⟨vO, hvO⟩ := hcw.on.get hd4
              obtain ⟨bB, oB, rfl, hbB, hcB⟩ := hcw.bound.ptr (by omega)
              obtain ⟨vB, hvB⟩ := hcw.bound.get hd4
              obtain ⟨bt2, ot2, rfl, hbt2, hct2⟩ := (hO4.out.below RBool.stable hbw.out).ptr (by omega)
              obtain ⟨vT, hvT⟩ := hO4.out.get hd4
              have cO := hcO d vO hvO
              have cB := hcB d vB hvB
              have cT := hct2 d vT hvT
              unfold RBool at cO cB cT
              simp only [Nat.mul_one] at cO cB cT
              have hdir := Lib.hid (show dirC ts cs e c d = ((vO == (vT || vq)) && (!vB || (meetB ts cs c d && bothB cs c d))) by unfold dirC; rw [hfeL.out, hvq, onAt_eq hvO, onAt_eq hvB, onAt_eq hvT])
              have x0 := hb1x.out.2 0 _ rfl
              have x1 := hb1x.out.2 1 _ rfl
              have x2 := hb1x.out.2 2 _ rfl
              have x3 := hb1x.out.2 3 _ rfl
              have x4 := hb1x.out.2 4 _ rfl
              have x5 := hb1x.out.2 5 _ rfl
              have y2 := hb2x.out.2 2 _ rfl
              have z0 := hb0.out.2 0 _ rfl
              have z1 := hb0.out.2 1 _ rfl
              have z2 := hb0.out.2 2 _ rfl
              have z3 := hb0.out.2 3 _ rfl
              have hTw := Lib.hid (hTH.out.below RSti.stable hbw.out)
              have hCw := Lib.hid (hCH.out.below RSc.stable hbw.out)
              have hOw := Lib.hid (hcw.on)
              clear hvq hcO hcB hct2 hvO hvB hvT hcw
              cases vT

              · by_cases hOq : vO = vq
                · subst hOq
                  cases vB
                  · have hr := Lib.hid (show dirC ts cs e c d = true by rw [hdir.out]; simp)
                    have hmt := Lib.hid (rfl : meetB ts cs c d = meetB ts cs c d)
                    go_wp2
                    refine wp_region_ord [(0, .q), (1, .q), (2, .q), (3, .q), (4, .q), (5, .q), (6, .q), (7, .q), (8, .q), (9, .q), (10, .q), (11, .q), (12, .q), (13, .q)] (by kernel_rfl) (by kernel_rfl) ?_
                    simp only [pick, List.filterMap_cons, List.filterMap_nil, List.getElem?_toArray, List.getElem?_cons_zero, List.getElem?_cons_succ, Option.map_some]
                    repeat (first
                      | ((with_reducible refine wpD_p (fun K hK => ?_)); go_simp; refine hK _ ?_; clear hK K)
                      | ((with_reducible refine wpD_q (fun K hK => ?_)); go_simp; (first | refine hK _ ?_ | (go_bits; refine hK _ ?_) | (go_bits; go_simp; refine hK _ ?_)); clear hK K)
                      | ((with_reducible refine wpD_g (fun K hK => ?_)); go_simp; refine hK _ _ ?_; clear hK K)
                      | ((with_reducible refine wpD_g (fun K hK => ?_)); go_simp; refine ⟨Grew.of_alloc _, hK _ _ ?_⟩; clear hK K)
                      | ((with_reducible refine wpD_g (fun K hK => ?_)); go_simp; refine ⟨Below.refl _ _, hK _ _ ?_⟩; clear hK K))
                    with_reducible refine wpD_nil ?_
                    go_wp2
                    refine wp_region_ord [(0, .q), (1, .q), (2, .q), (3, .q), (4, .q), (5, .q), (6, .q), (7, .q), (8, .q), (9, .g), (10, .q), (11, .q), (12, .q), (13, .q), (14, .q), (15, .q), (16, .q), (17, .q), (23, .q), (18, .g), (19, .g), (20, .q), (21, .q), (22, .q), (24, .g), (25, .q), (26, .q), (27, .q), (28, .q), (29, .q)] (by kernel_rfl) (by kernel_rfl) ?_
                    simp only [pick, List.filterMap_cons, List.filterMap_nil, List.getElem?_toArray, List.getElem?_cons_zero, List.getElem?_cons_succ, Option.map_some]
                    repeat (first
                      | ((with_reducible refine wpD_p (fun K hK => ?_)); go_simp; refine hK _ ?_; clear hK K)
                      | ((with_reducible refine wpD_q (fun K hK => ?_)); go_simp; (first | refine hK _ ?_ | (go_bits; refine hK _ ?_) | (go_bits; go_simp; refine hK _ ?_)); clear hK K)
                      | ((with_reducible refine wpD_g (fun K hK => ?_)); go_simp; refine hK _ _ ?_; clear hK K)
                      | ((with_reducible refine wpD_g (fun K hK => ?_)); go_simp; refine ⟨Grew.of_alloc _, hK _ _ ?_⟩; clear hK K)
                      | ((with_reducible refine wpD_g (fun K hK => ?_)); go_simp; refine ⟨Below.refl _ _, hK _ _ ?_⟩; clear hK K)
                      | ((with_reducible refine wpD_g (fun K hK => ?_)); go_simp; go_at_call 77; refine (meets_tn hctH.out (hTw.out.below RSti.stable (by exact bel_)) (hCw.out.below RSc.stable (by exact bel_)) hVH.out hiH.out (hOw.out.below RBool.stable (by exact bel_)) hd4 hmt.out).mono ?_; rintro e w4 ⟨rfl, hb4⟩; refine ⟨_, rfl, hb4, hK _ _ ?_⟩; clear hK K; obtain ⟨chb4, fhb4, shb4, thb4⟩ := bcell hb4; (try have bhb40 := shb4 (w.heap.size) (by go_simp)); (try have bhb41 := shb4 (w.heap.size + 1) (by go_simp)); (try have bhb42 := shb4 (bt) (by go_simp)); (replace chb4 : ∀ (b o : Nat), b < wc.heap.size → w4.cell? ⟨b, o, none⟩ = wc.cell? ⟨b, o, none⟩ := chb4))
                      | ((with_reducible refine wpD_g (fun K hK => ?_)); go_simp; go_at_call 79; refine (step_any _ _ _ _ hd4 ⟨by omega, by omega⟩ ⟨by omega, by omega⟩).mono ?_; rintro e w5 ⟨rfl, hb5⟩; refine ⟨_, rfl, hb5, hK _ _ ?_⟩; clear hK K; obtain ⟨chb5, fhb5, shb5, thb5⟩ := bcell hb5; (try have bhb50 := shb5 (w.heap.size) (by go_simp)); (try have bhb51 := shb5 (w.heap.size + 1) (by go_simp)); (try have bhb52 := shb5 (bt) (by go_simp)))
                      | ((with_reducible refine wpD_g (fun K hK => ?_)); go_simp; go_at_call 78; refine (at_at (hCw.out.below RSc.stable (by exact bel_)) hVH.out rfl).mono ?_; rintro e w6 ⟨rfl, hb6⟩; refine ⟨_, rfl, hb6, hK _ _ ?_⟩; clear hK K; obtain ⟨chb6, fhb6, shb6, thb6⟩ := bcell hb6; (try have bhb60 := shb6 (w.heap.size) (by go_simp)); (try have bhb61 := shb6 (w.heap.size + 1) (by go_simp)); (try have bhb62 := shb6 (bt) (by go_simp)))
                      | ((with_reducible refine wpD_g (fun K hK => ?_)); go_simp; go_at_call 80; refine (opposite_any _ _ hd4).mono ?_; rintro e _ ⟨rfl, rfl⟩; refine ⟨_, rfl, Below.refl _ _, hK _ _ ?_⟩; clear hK K))
                    with_reducible refine wpD_nil ?_
                    go_wp2
                    go_roundg (4 - (d + 1))
                    case measure => omega
                    case rel => exact ⟨d + 1, by omega, by go_num, Lib.hid fun j hj => (by rcases Nat.lt_succ_iff_lt_or_eq.1 hj with hj | rfl; exact hok.out j hj; exact hr.out), box_step hbw hb0 hb1x hb2x (by exact bel_)⟩
                  · cases hmt : meetB ts cs c d
                    · have hr := Lib.hid (cellB_dir (cs := cs) hTc.out hd4 (show dirC ts cs e c d = false by rw [hdir.out]; simp [hmt]))
                      have hmt := Lib.hid hmt
                      
                      go_wp2
                      refine wp_region_ord [(0, .q), (1, .q), (2, .q), (3, .q), (4, .q), (5, .q), (6, .q), (7, .q), (8, .q), (9, .q), (10, .q), (11, .q), (12, .q), (13, .q)] (by kernel_rfl) (by kernel_rfl) ?_
                      simp only [pick, List.filterMap_cons, List.filterMap_nil, List.getElem?_toArray, List.getElem?_cons_zero, List.getElem?_cons_succ, Option.map_some]
                      repeat (first
                        | ((with_reducible refine wpD_p (fun K hK => ?_)); go_simp; refine hK _ ?_; clear hK K)
                        | ((with_reducible refine wpD_q (fun K hK => ?_)); go_simp; (first | refine hK _ ?_ | (go_bits; refine hK _ ?_) | (go_bits; go_simp; refine hK _ ?_)); clear hK K)
                        | ((with_reducible refine wpD_g (fun K hK => ?_)); go_simp; refine hK _ _ ?_; clear hK K)
                        | ((with_reducible refine wpD_g (fun K hK => ?_)); go_simp; refine ⟨Grew.of_alloc _, hK _ _ ?_⟩; clear hK K)
                        | ((with_reducible refine wpD_g (fun K hK => ?_)); go_simp; refine ⟨Below.refl _ _, hK _ _ ?_⟩; clear hK K))
                      with_reducible refine wpD_nil ?_
                      go_wp2
                      refine wp_region_ord [(0, .q), (1, .q), (2, .q), (3, .q), (4, .q), (5, .q), (6, .q), (7, .q), (8, .q), (9, .g), (10, .q), (11, .q), (12, .q), (13, .q), (14, .q), (15, .q), (16, .q), (17, .q), (23, .q), (18, .g), (19, .g), (20, .q), (21, .q), (22, .q), (24, .g), (25, .q), (26, .q), (27, .q), (28, .q), (29, .q)] (by kernel_rfl) (by kernel_rfl) ?_
                      simp only [pick, List.filterMap_cons, List.filterMap_nil, List.getElem?_toArray, List.getElem?_cons_zero, List.getElem?_cons_succ, Option.map_some]
                      repeat (first
                        | ((with_reducible refine wpD_p (fun K hK => ?_)); go_simp; refine hK _ ?_; clear hK K)
                        | ((with_reducible refine wpD_q (fun K hK => ?_)); go_simp; (first | refine hK _ ?_ | (go_bits; refine hK _ ?_) | (go_bits; go_simp; refine hK _ ?_)); clear hK K)
                        | ((with_reducible refine wpD_g (fun K hK => ?_)); go_simp; refine hK _ _ ?_; clear hK K)
                        | ((with_reducible refine wpD_g (fun K hK => ?_)); go_simp; refine ⟨Grew.of_alloc _, hK _ _ ?_⟩; clear hK K)
                        | ((with_reducible refine wpD_g (fun K hK => ?_)); go_simp; refine ⟨Below.refl _ _, hK _ _ ?_⟩; clear hK K)
                        | ((with_reducible refine wpD_g (fun K hK => ?_)); go_simp; go_at_call 77; refine (meets_tn hctH.out (hTw.out.below RSti.stable (by exact bel_)) (hCw.out.below RSc.stable (by exact bel_)) hVH.out hiH.out (hOw.out.below RBool.stable (by exact bel_)) hd4 hmt.out).mono ?_; rintro e w4 ⟨rfl, hb4⟩; refine ⟨_, rfl, hb4, hK _ _ ?_⟩; clear hK K; obtain ⟨chb4, fhb4, shb4, thb4⟩ := bcell hb4; (try have bhb40 := shb4 (w.heap.size) (by go_simp)); (try have bhb41 := shb4 (w.heap.size + 1) (by go_simp)); (try have bhb42 := shb4 (w.heap.size + 1 + 1) (by go_simp)); (try have bhb43 := shb4 (bB) (by go_simp)); (replace chb4 : ∀ (b o : Nat), b < wc.heap.size → w4.cell? ⟨b, o, none⟩ = wc.cell? ⟨b, o, none⟩ := chb4))
                        | ((with_reducible refine wpD_g (fun K hK => ?_)); go_simp; go_at_call 79; refine (step_any _ _ _ _ hd4 ⟨by omega, by omega⟩ ⟨by omega, by omega⟩).mono ?_; rintro e w5 ⟨rfl, hb5⟩; refine ⟨_, rfl, hb5, hK _ _ ?_⟩; clear hK K; obtain ⟨chb5, fhb5, shb5, thb5⟩ := bcell hb5; (try have bhb50 := shb5 (w.heap.size) (by go_simp)); (try have bhb51 := shb5 (w.heap.size + 1) (by go_simp)); (try have bhb52 := shb5 (w.heap.size + 1 + 1) (by go_simp)); (try have bhb53 := shb5 (bB) (by go_simp)))
                        | ((with_reducible refine wpD_g (fun K hK => ?_)); go_simp; go_at_call 78; refine (at_at (hCw.out.below RSc.stable (by exact bel_)) hVH.out rfl).mono ?_; rintro e w6 ⟨rfl, hb6⟩; refine ⟨_, rfl, hb6, hK _ _ ?_⟩; clear hK K; obtain ⟨chb6, fhb6, shb6, thb6⟩ := bcell hb6; (try have bhb60 := shb6 (w.heap.size) (by go_simp)); (try have bhb61 := shb6 (w.heap.size + 1) (by go_simp)); (try have bhb62 := shb6 (w.heap.size + 1 + 1) (by go_simp)); (try have bhb63 := shb6 (bB) (by go_simp)))
                        | ((with_reducible refine wpD_g (fun K hK => ?_)); go_simp; go_at_call 80; refine (opposite_any _ _ hd4).mono ?_; rintro e _ ⟨rfl, rfl⟩; refine ⟨_, rfl, Below.refl _ _, hK _ _ ?_⟩; clear hK K))
                      with_reducible refine wpD_nil ?_
                      go_wp2
                      go_ret
                      exact ⟨ret_bool hr.out.symm, by have := hbw.out; exact bel_⟩
                    · obtain ⟨k2, nb, hp, hk2, hnx⟩ : ∃ (k2 : Nat) (nb : Sc), placeI (plsOf cs) (stepX c.x d) (stepY c.y d) = k2 ∧ cs[k2]? = some nb ∧ nextC cs c d = some nb := by
                        rcases place_cases hVH.out (stepX c.x d) (stepY c.y d) with ⟨_, h⟩ | ⟨k2, nb, h1, h2, h3⟩
                        · rw [meet_none h] at hmt; cases hmt
                        · exact ⟨k2, nb, h1, h2, h3⟩
                      obtain ⟨bc2, oc2, rfl, hbc, hcc⟩ := hCw.out.ptr (by have := hCw.out.len; have := lt_of_get hk2; omega)
                      obtain ⟨n0, n1, n2, ⟨NO, nn, nc, n3, _⟩, ⟨NB, nbn, nbc, n4, hNB⟩, ⟨NF, nfn, nfc, n5, _⟩⟩ := hcc k2 nb hk2
                      obtain ⟨_, hl4, _⟩ := hVH.out.cell k2 nb hk2
                      rw [hNB.len] at hl4
                      subst hl4
                      obtain ⟨bno, ono, rfl, hbno, hcno⟩ := hNB.ptr (by omega)
                      obtain ⟨vn, hvn⟩ := hNB.get (opp_lt hd4)
                      have cno := hcno (oppN d) vn hvn
                      unfold RBool at cno
                      simp only [Nat.mul_one] at cno
                      have hbo := Lib.hid (show bothB cs c d = vn by rw [both_some hnx, onAt_eq hvn])
                      have hod : ((oppN d : Nat) : Int) < 4 := by have := opp_lt hd4; omega
                      have hkq : k2 < q := by rw [← hCw.out.len]; exact lt_of_get hk2
                      have hpH := Lib.hid hp
                      have hmtH := hmt
                      have hmt := Lib.hid hmt
                      clear hp hcc hk2 hNB hcno hvn hnx
                      
                      cases vn
                      · have hr := Lib.hid (cellB_dir (cs := cs) hTc.out hd4 (show dirC ts cs e c d = false by rw [hdir.out, hbo.out]; simp))
                        clear hmtH
                        go_wp2
                        refine wp_region_ord [(0, .q), (1, .q), (2, .q), (3, .q), (4, .q), (5, .q), (6, .q), (7, .q), (8, .q), (9, .q), (10, .q), (11, .q), (12, .q), (13, .q)] (by kernel_rfl) (by kernel_rfl) ?_
                        simp only [pick, List.filterMap_cons, List.filterMap_nil, List.getElem?_toArray, List.getElem?_cons_zero, List.getElem?_cons_succ, Option.map_some]
                        repeat (first
                          | ((with_reducible refine wpD_p (fun K hK => ?_)); go_simp; refine hK _ ?_; clear hK K)
                          | ((with_reducible refine wpD_q (fun K hK => ?_)); go_simp; (first | refine hK _ ?_ | (go_bits; refine hK _ ?_) | (go_bits; go_simp; refine hK _ ?_)); clear hK K)
                          | ((with_reducible refine wpD_g (fun K hK => ?_)); go_simp; refine hK _ _ ?_; clear hK K)
                          | ((with_reducible refine wpD_g (fun K hK => ?_)); go_simp; refine ⟨Grew.of_alloc _, hK _ _ ?_⟩; clear hK K)
                          | ((with_reducible refine wpD_g (fun K hK => ?_)); go_simp; refine ⟨Below.refl _ _, hK _ _ ?_⟩; clear hK K))
                        with_reducible refine wpD_nil ?_
                        go_wp2
                        refine wp_region_ord [(0, .q), (1, .q), (2, .q), (3, .q), (4, .q), (5, .q), (6, .q), (7, .q), (8, .q), (9, .g), (10, .q), (11, .q), (12, .q), (13, .q), (14, .q), (15, .q), (16, .q), (17, .q), (23, .q), (18, .g), (19, .g), (20, .q), (21, .q), (22, .q), (24, .g), (25, .q), (26, .q), (27, .q), (28, .q), (29, .q)] (by kernel_rfl) (by kernel_rfl) ?_
                        simp only [pick, List.filterMap_cons, List.filterMap_nil, List.getElem?_toArray, List.getElem?_cons_zero, List.getElem?_cons_succ, Option.map_some]
                        repeat (first
                          | ((with_reducible refine wpD_p (fun K hK => ?_)); go_simp; refine hK _ ?_; clear hK K)
                          | ((with_reducible refine wpD_q (fun K hK => ?_)); go_simp; (first | refine hK _ ?_ | (go_bits; refine hK _ ?_) | (go_bits; go_simp; refine hK _ ?_)); clear hK K)
                          | ((with_reducible refine wpD_g (fun K hK => ?_)); go_simp; refine hK _ _ ?_; clear hK K)
                          | ((with_reducible refine wpD_g (fun K hK => ?_)); go_simp; refine ⟨Grew.of_alloc _, hK _ _ ?_⟩; clear hK K)
                          | ((with_reducible refine wpD_g (fun K hK => ?_)); go_simp; refine ⟨Below.refl _ _, hK _ _ ?_⟩; clear hK K)
                          | ((with_reducible refine wpD_g (fun K hK => ?_)); go_simp; go_at_call 77; refine (meets_tn hctH.out (hTw.out.below RSti.stable (by exact bel_)) (hCw.out.below RSc.stable (by exact bel_)) hVH.out hiH.out (hOw.out.below RBool.stable (by exact bel_)) hd4 hmt.out).mono ?_; rintro e w4 ⟨rfl, hb4⟩; refine ⟨_, rfl, hb4, hK _ _ ?_⟩; clear hK K; obtain ⟨chb4, fhb4, shb4, thb4⟩ := bcell hb4; (try have bhb40 := shb4 (w.heap.size) (by go_simp)); (try have bhb41 := shb4 (w.heap.size + 1) (by go_simp)); (try have bhb42 := shb4 (w.heap.size + 1 + 1) (by go_simp)); (try have bhb43 := shb4 (bB) (by go_simp)); (try have bhb44 := shb4 (bc2) (by go_simp)); (try have bhb45 := shb4 (bno) (by go_simp)); (replace chb4 : ∀ (b o : Nat), b < wc.heap.size → w4.cell? ⟨b, o, none⟩ = wc.cell? ⟨b, o, none⟩ := chb4))
                          | ((with_reducible refine wpD_g (fun K hK => ?_)); go_simp; go_at_call 79; refine (step_any _ _ _ _ hd4 ⟨by omega, by omega⟩ ⟨by omega, by omega⟩).mono ?_; rintro e w5 ⟨rfl, hb5⟩; refine ⟨_, rfl, hb5, hK _ _ ?_⟩; clear hK K; obtain ⟨chb5, fhb5, shb5, thb5⟩ := bcell hb5; (try have bhb50 := shb5 (w.heap.size) (by go_simp)); (try have bhb51 := shb5 (w.heap.size + 1) (by go_simp)); (try have bhb52 := shb5 (w.heap.size + 1 + 1) (by go_simp)); (try have bhb53 := shb5 (bB) (by go_simp)); (try have bhb54 := shb5 (bc2) (by go_simp)); (try have bhb55 := shb5 (bno) (by go_simp)))
                          | ((with_reducible refine wpD_g (fun K hK => ?_)); go_simp; go_at_call 78; refine (at_at (hCw.out.below RSc.stable (by exact bel_)) hVH.out hpH.out).mono ?_; rintro e w6 ⟨rfl, hb6⟩; refine ⟨_, rfl, hb6, hK _ _ ?_⟩; clear hK K; obtain ⟨chb6, fhb6, shb6, thb6⟩ := bcell hb6; (try have bhb60 := shb6 (w.heap.size) (by go_simp)); (try have bhb61 := shb6 (w.heap.size + 1) (by go_simp)); (try have bhb62 := shb6 (w.heap.size + 1 + 1) (by go_simp)); (try have bhb63 := shb6 (bB) (by go_simp)); (try have bhb64 := shb6 (bc2) (by go_simp)); (try have bhb65 := shb6 (bno) (by go_simp)))
                          | ((with_reducible refine wpD_g (fun K hK => ?_)); go_simp; go_at_call 80; refine (opposite_any _ _ hd4).mono ?_; rintro e _ ⟨rfl, rfl⟩; refine ⟨_, rfl, Below.refl _ _, hK _ _ ?_⟩; clear hK K))
                        with_reducible refine wpD_nil ?_
                        go_wp2
                        go_ret
                        exact ⟨ret_bool hr.out.symm, by have := hbw.out; exact bel_⟩
                      · have hr := Lib.hid (show dirC ts cs e c d = true by rw [hdir.out, hbo.out, hmtH]; simp)
                        clear hmtH
                        go_wp2
                        refine wp_region_ord [(0, .q), (1, .q), (2, .q), (3, .q), (4, .q), (5, .q), (6, .q), (7, .q), (8, .q), (9, .q), (10, .q), (11, .q), (12, .q), (13, .q)] (by kernel_rfl) (by kernel_rfl) ?_
                        simp only [pick, List.filterMap_cons, List.filterMap_nil, List.getElem?_toArray, List.getElem?_cons_zero, List.getElem?_cons_succ, Option.map_some]
                        repeat (first
                          | ((with_reducible refine wpD_p (fun K hK => ?_)); go_simp; refine hK _ ?_; clear hK K)
                          | ((with_reducible refine wpD_q (fun K hK => ?_)); go_simp; (first | refine hK _ ?_ | (go_bits; refine hK _ ?_) | (go_bits; go_simp; refine hK _ ?_)); clear hK K)
                          | ((with_reducible refine wpD_g (fun K hK => ?_)); go_simp; refine hK _ _ ?_; clear hK K)
                          | ((with_reducible refine wpD_g (fun K hK => ?_)); go_simp; refine ⟨Grew.of_alloc _, hK _ _ ?_⟩; clear hK K)
                          | ((with_reducible refine wpD_g (fun K hK => ?_)); go_simp; refine ⟨Below.refl _ _, hK _ _ ?_⟩; clear hK K))
                        with_reducible refine wpD_nil ?_
                        go_wp2
                        refine wp_region_ord [(0, .q), (1, .q), (2, .q), (3, .q), (4, .q), (5, .q), (6, .q), (7, .q), (8, .q), (9, .g), (10, .q), (11, .q), (12, .q), (13, .q), (14, .q), (15, .q), (16, .q), (17, .q), (23, .q), (18, .g), (19, .g), (20, .q), (21, .q), (22, .q), (24, .g), (25, .q), (26, .q), (27, .q), (28, .q), (29, .q)] (by kernel_rfl) (by kernel_rfl) ?_
                        simp only [pick, List.filterMap_cons, List.filterMap_nil, List.getElem?_toArray, List.getElem?_cons_zero, List.getElem?_cons_succ, Option.map_some]
                        repeat (first
                          | ((with_reducible refine wpD_p (fun K hK => ?_)); go_simp; refine hK _ ?_; clear hK K)
                          | ((with_reducible refine wpD_q (fun K hK => ?_)); go_simp; (first | refine hK _ ?_ | (go_bits; refine hK _ ?_) | (go_bits; go_simp; refine hK _ ?_)); clear hK K)
                          | ((with_reducible refine wpD_g (fun K hK => ?_)); go_simp; refine hK _ _ ?_; clear hK K)
                          | ((with_reducible refine wpD_g (fun K hK => ?_)); go_simp; refine ⟨Grew.of_alloc _, hK _ _ ?_⟩; clear hK K)
                          | ((with_reducible refine wpD_g (fun K hK => ?_)); go_simp; refine ⟨Below.refl _ _, hK _ _ ?_⟩; clear hK K)
                          | ((with_reducible refine wpD_g (fun K hK => ?_)); go_simp; go_at_call 77; refine (meets_tn hctH.out (hTw.out.below RSti.stable (by exact bel_)) (hCw.out.below RSc.stable (by exact bel_)) hVH.out hiH.out (hOw.out.below RBool.stable (by exact bel_)) hd4 hmt.out).mono ?_; rintro e w4 ⟨rfl, hb4⟩; refine ⟨_, rfl, hb4, hK _ _ ?_⟩; clear hK K; obtain ⟨chb4, fhb4, shb4, thb4⟩ := bcell hb4; (try have bhb40 := shb4 (w.heap.size) (by go_simp)); (try have bhb41 := shb4 (w.heap.size + 1) (by go_simp)); (try have bhb42 := shb4 (w.heap.size + 1 + 1) (by go_simp)); (try have bhb43 := shb4 (bB) (by go_simp)); (try have bhb44 := shb4 (bc2) (by go_simp)); (try have bhb45 := shb4 (bno) (by go_simp)); (replace chb4 : ∀ (b o : Nat), b < wc.heap.size → w4.cell? ⟨b, o, none⟩ = wc.cell? ⟨b, o, none⟩ := chb4))
                          | ((with_reducible refine wpD_g (fun K hK => ?_)); go_simp; go_at_call 79; refine (step_any _ _ _ _ hd4 ⟨by omega, by omega⟩ ⟨by omega, by omega⟩).mono ?_; rintro e w5 ⟨rfl, hb5⟩; refine ⟨_, rfl, hb5, hK _ _ ?_⟩; clear hK K; obtain ⟨chb5, fhb5, shb5, thb5⟩ := bcell hb5; (try have bhb50 := shb5 (w.heap.size) (by go_simp)); (try have bhb51 := shb5 (w.heap.size + 1) (by go_simp)); (try have bhb52 := shb5 (w.heap.size + 1 + 1) (by go_simp)); (try have bhb53 := shb5 (bB) (by go_simp)); (try have bhb54 := shb5 (bc2) (by go_simp)); (try have bhb55 := shb5 (bno) (by go_simp)))
                          | ((with_reducible refine wpD_g (fun K hK => ?_)); go_simp; go_at_call 78; refine (at_at (hCw.out.below RSc.stable (by exact bel_)) hVH.out hpH.out).mono ?_; rintro e w6 ⟨rfl, hb6⟩; refine ⟨_, rfl, hb6, hK _ _ ?_⟩; clear hK K; obtain ⟨chb6, fhb6, shb6, thb6⟩ := bcell hb6; (try have bhb60 := shb6 (w.heap.size) (by go_simp)); (try have bhb61 := shb6 (w.heap.size + 1) (by go_simp)); (try have bhb62 := shb6 (w.heap.size + 1 + 1) (by go_simp)); (try have bhb63 := shb6 (bB) (by go_simp)); (try have bhb64 := shb6 (bc2) (by go_simp)); (try have bhb65 := shb6 (bno) (by go_simp)))
                          | ((with_reducible refine wpD_g (fun K hK => ?_)); go_simp; go_at_call 80; refine (opposite_any _ _ hd4).mono ?_; rintro e _ ⟨rfl, rfl⟩; refine ⟨_, rfl, Below.refl _ _, hK _ _ ?_⟩; clear hK K))
                        with_reducible refine wpD_nil ?_
                        go_wp2
                        go_roundg (4 - (d + 1))
                        case measure => omega
                        case rel => exact ⟨d + 1, by omega, by go_num, Lib.hid fun j hj => (by rcases Nat.lt_succ_iff_lt_or_eq.1 hj with hj | rfl; exact hok.out j hj; exact hr.out), box_step hbw hb0 hb1x hb2x (by exact bel_)⟩
                · cases vO
                  · cases vq
                    · exact absurd rfl hOq
                    · have hr := Lib.hid (cellB_dir (cs := cs) hTc.out hd4 (show dirC ts cs e c d = false by rw [hdir.out]; simp))
                      go_wp2
                      refine wp_region_ord [(0, .q), (1, .q), (2, .q), (3, .q), (4, .q), (5, .q), (6, .q), (7, .q), (8, .q), (9, .q), (10, .q), (11, .q), (12, .q), (13, .q)] (by kernel_rfl) (by kernel_rfl) ?_
                      simp only [pick, List.filterMap_cons, List.filterMap_nil, List.getElem?_toArray, List.getElem?_cons_zero, List.getElem?_cons_succ, Option.map_some]
                      repeat (first
                        | ((with_reducible refine wpD_p (fun K hK => ?_)); go_simp; refine hK _ ?_; clear hK K)
                        | ((with_reducible refine wpD_q (fun K hK => ?_)); go_simp; (first | refine hK _ ?_ | (go_bits; refine hK _ ?_) | (go_bits; go_simp; refine hK _ ?_)); clear hK K)
                        | ((with_reducible refine wpD_g (fun K hK => ?_)); go_simp; refine hK _ _ ?_; clear hK K)
                        | ((with_reducible refine wpD_g (fun K hK => ?_)); go_simp; refine ⟨Grew.of_alloc _, hK _ _ ?_⟩; clear hK K)
                        | ((with_reducible refine wpD_g (fun K hK => ?_)); go_simp; refine ⟨Below.refl _ _, hK _ _ ?_⟩; clear hK K))
                      with_reducible refine wpD_nil ?_
                      go_wp2
                      go_ret
                      exact ⟨ret_bool hr.out.symm, by have := hbw.out; exact bel_⟩
                  · cases vq
                    · have hr := Lib.hid (cellB_dir (cs := cs) hTc.out hd4 (show dirC ts cs e c d = false by rw [hdir.out]; simp))
                      go_wp2
                      refine wp_region_ord [(0, .q), (1, .q), (2, .q), (3, .q), (4, .q), (5, .q), (6, .q), (7, .q), (8, .q), (9, .q), (10, .q), (11, .q), (12, .q), (13, .q)] (by kernel_rfl) (by kernel_rfl) ?_
                      simp only [pick, List.filterMap_cons, List.filterMap_nil, List.getElem?_toArray, List.getElem?_cons_zero, List.getElem?_cons_succ, Option.map_some]
                      repeat (first
                        | ((with_reducible refine wpD_p (fun K hK => ?_)); go_simp; refine hK _ ?_; clear hK K)
                        | ((with_reducible refine wpD_q (fun K hK => ?_)); go_simp; (first | refine hK _ ?_ | (go_bits; refine hK _ ?_) | (go_bits; go_simp; refine hK _ ?_)); clear hK K)
                        | ((with_reducible refine wpD_g (fun K hK => ?_)); go_simp; refine hK _ _ ?_; clear hK K)
                        | ((with_reducible refine wpD_g (fun K hK => ?_)); go_simp; refine ⟨Grew.of_alloc _, hK _ _ ?_⟩; clear hK K)
                        | ((with_reducible refine wpD_g (fun K hK => ?_)); go_simp; refine ⟨Below.refl _ _, hK _ _ ?_⟩; clear hK K))
                      with_reducible refine wpD_nil ?_
                      go_wp2
                      go_ret
                      exact ⟨ret_bool hr.out.symm, by have := hbw.out; exact bel_⟩
                    · exact absurd rfl hOq
              · cases vO
                · have hr := Lib.hid (cellB_dir (cs := cs) hTc.out hd4 (show dirC ts cs e c d = false by rw [hdir.out]; simp))
                  go_wp2
                  refine wp_region_ord [(0, .q), (1, .q), (2, .q), (3, .q), (4, .q), (5, .q), (6, .q), (7, .q), (8, .q), (9, .q), (10, .q), (11, .q), (12, .q), (13, .q)] (by kernel_rfl) (by kernel_rfl) ?_
                  simp only [pick, List.filterMap_cons, List.filterMap_nil, List.getElem?_toArray, List.getElem?_cons_zero, List.getElem?_cons_succ, Option.map_some]
                  repeat (first
                    | ((with_reducible refine wpD_p (fun K hK => ?_)); go_simp; refine hK _ ?_; clear hK K)
                    | ((with_reducible refine wpD_q (fun K hK => ?_)); go_simp; (first | refine hK _ ?_ | (go_bits; refine hK _ ?_) | (go_bits; go_simp; refine hK _ ?_)); clear hK K)
                    | ((with_reducible refine wpD_g (fun K hK => ?_)); go_simp; refine hK _ _ ?_; clear hK K)
                    | ((with_reducible refine wpD_g (fun K hK => ?_)); go_simp; refine ⟨Grew.of_alloc _, hK _ _ ?_⟩; clear hK K)
                    | ((with_reducible refine wpD_g (fun K hK => ?_)); go_simp; refine ⟨Below.refl _ _, hK _ _ ?_⟩; clear hK K))
                  with_reducible refine wpD_nil ?_
                  go_wp2
                  go_ret
                  exact ⟨ret_bool hr.out.symm, by have := hbw.out; exact bel_⟩
                · cases vB
                  · have hr := Lib.hid (show dirC ts cs e c d = true by rw [hdir.out]; simp)
                    have hmt := Lib.hid (rfl : meetB ts cs c d = meetB ts cs c d)
                    go_wp2
                    refine wp_region_ord [(0, .q), (1, .q), (2, .q), (3, .q), (4, .q), (5, .q), (6, .q), (7, .q), (8, .q), (9, .q), (10, .q), (11, .q), (12, .q), (13, .q)] (by kernel_rfl) (by kernel_rfl) ?_
                    simp only [pick, List.filterMap_cons, List.filterMap_nil, List.getElem?_toArray, List.getElem?_cons_zero, List.getElem?_cons_succ, Option.map_some]
                    repeat (first
                      | ((with_reducible refine wpD_p (fun K hK => ?_)); go_simp; refine hK _ ?_; clear hK K)
                      | ((with_reducible refine wpD_q (fun K hK => ?_)); go_simp; (first | refine hK _ ?_ | (go_bits; refine hK _ ?_) | (go_bits; go_simp; refine hK _ ?_)); clear hK K)
                      | ((with_reducible refine wpD_g (fun K hK => ?_)); go_simp; refine hK _ _ ?_; clear hK K)
                      | ((with_reducible refine wpD_g (fun K hK => ?_)); go_simp; refine ⟨Grew.of_alloc _, hK _ _ ?_⟩; clear hK K)
                      | ((with_reducible refine wpD_g (fun K hK => ?_)); go_simp; refine ⟨Below.refl _ _, hK _ _ ?_⟩; clear hK K))
                    with_reducible refine wpD_nil ?_
                    go_wp2
                    refine wp_region_ord [(0, .q), (1, .q), (2, .q), (3, .q), (4, .q), (5, .q), (6, .q), (7, .q), (8, .q), (9, .g), (10, .q), (11, .q), (12, .q), (13, .q), (14, .q), (15, .q), (16, .q), (17, .q), (23, .q), (18, .g), (19, .g), (20, .q), (21, .q), (22, .q), (24, .g), (25, .q), (26, .q), (27, .q), (28, .q), (29, .q)] (by kernel_rfl) (by kernel_rfl) ?_
                    simp only [pick, List.filterMap_cons, List.filterMap_nil, List.getElem?_toArray, List.getElem?_cons_zero, List.getElem?_cons_succ, Option.map_some]
                    repeat (first
                      | ((with_reducible refine wpD_p (fun K hK => ?_)); go_simp; refine hK _ ?_; clear hK K)
                      | ((with_reducible refine wpD_q (fun K hK => ?_)); go_simp; (first | refine hK _ ?_ | (go_bits; refine hK _ ?_) | (go_bits; go_simp; refine hK _ ?_)); clear hK K)
                      | ((with_reducible refine wpD_g (fun K hK => ?_)); go_simp; refine hK _ _ ?_; clear hK K)
                      | ((with_reducible refine wpD_g (fun K hK => ?_)); go_simp; refine ⟨Grew.of_alloc _, hK _ _ ?_⟩; clear hK K)
                      | ((with_reducible refine wpD_g (fun K hK => ?_)); go_simp; refine ⟨Below.refl _ _, hK _ _ ?_⟩; clear hK K)
                      | ((with_reducible refine wpD_g (fun K hK => ?_)); go_simp; go_at_call 77; refine (meets_tn hctH.out (hTw.out.below RSti.stable (by exact bel_)) (hCw.out.below RSc.stable (by exact bel_)) hVH.out hiH.out (hOw.out.below RBool.stable (by exact bel_)) hd4 hmt.out).mono ?_; rintro e w4 ⟨rfl, hb4⟩; refine ⟨_, rfl, hb4, hK _ _ ?_⟩; clear hK K; obtain ⟨chb4, fhb4, shb4, thb4⟩ := bcell hb4; (try have bhb40 := shb4 (w.heap.size) (by go_simp)); (try have bhb41 := shb4 (w.heap.size + 1) (by go_simp)); (try have bhb42 := shb4 (w.heap.size + 1 + 1) (by go_simp)); (try have bhb43 := shb4 (bB) (by go_simp)); (try have bhb44 := shb4 (bc2) (by go_simp)); (try have bhb45 := shb4 (bno) (by go_simp)); (replace chb4 : ∀ (b o : Nat), b < wc.heap.size → w4.cell? ⟨b, o, none⟩ = wc.cell? ⟨b, o, none⟩ := chb4))
                      | ((with_reducible refine wpD_g (fun K hK => ?_)); go_simp; go_at_call 79; refine (step_any _ _ _ _ hd4 ⟨by omega, by omega⟩ ⟨by omega, by omega⟩).mono ?_; rintro e w5 ⟨rfl, hb5⟩; refine ⟨_, rfl, hb5, hK _ _ ?_⟩; clear hK K; obtain ⟨chb5, fhb5, shb5, thb5⟩ := bcell hb5; (try have bhb50 := shb5 (w.heap.size) (by go_simp)); (try have bhb51 := shb5 (w.heap.size + 1) (by go_simp)); (try have bhb52 := shb5 (w.heap.size + 1 + 1) (by go_simp)); (try have bhb53 := shb5 (bB) (by go_simp)); (try have bhb54 := shb5 (bc2) (by go_simp)); (try have bhb55 := shb5 (bno) (by go_simp)))
                      | ((with_reducible refine wpD_g (fun K hK => ?_)); go_simp; go_at_call 78; refine (at_at (hCw.out.below RSc.stable (by exact bel_)) hVH.out rfl).mono ?_; rintro e w6 ⟨rfl, hb6⟩; refine ⟨_, rfl, hb6, hK _ _ ?_⟩; clear hK K; obtain ⟨chb6, fhb6, shb6, thb6⟩ := bcell hb6; (try have bhb60 := shb6 (w.heap.size) (by go_simp)); (try have bhb61 := shb6 (w.heap.size + 1) (by go_simp)); (try have bhb62 := shb6 (w.heap.size + 1 + 1) (by go_simp)); (try have bhb63 := shb6 (bB) (by go_simp)); (try have bhb64 := shb6 (bc2) (by go_simp)); (try have bhb65 := shb6 (bno) (by go_simp)))
                      | ((with_reducible refine wpD_g (fun K hK => ?_)); go_simp; go_at_call 80; refine (opposite_any _ _ hd4).mono ?_; rintro e _ ⟨rfl, rfl⟩; refine ⟨_, rfl, Below.refl _ _, hK _ _ ?_⟩; clear hK K))
                    with_reducible refine wpD_nil ?_
                    go_wp2
                    go_roundg (4 - (d + 1))
                    case measure => omega
                    case rel => exact ⟨d + 1, by omega, by go_num, Lib.hid fun j hj => (by rcases Nat.lt_succ_iff_lt_or_eq.1 hj with hj | rfl; exact hok.out j hj; exact hr.out), box_step hbw hb0 hb1x hb2x (by exact bel_)⟩
                  · cases hmt : meetB ts cs c d
                    · have hr := Lib.hid (cellB_dir (cs := cs) hTc.out hd4 (show dirC ts cs e c d = false by rw [hdir.out]; simp [hmt]))
                      have hmt := Lib.hid hmt
                      
                      go_wp2
                      refine wp_region_ord [(0, .q), (1, .q), (2, .q), (3, .q), (4, .q), (5, .q), (6, .q), (7, .q), (8, .q), (9, .q), (10, .q), (11, .q), (12, .q), (13, .q)] (by kernel_rfl) (by kernel_rfl) ?_
                      simp only [pick, List.filterMap_cons, List.filterMap_nil, List.getElem?_toArray, List.getElem?_cons_zero, List.getElem?_cons_succ, Option.map_some]
                      repeat (first
                        | ((with_reducible refine wpD_p (fun K hK => ?_)); go_simp; refine hK _ ?_; clear hK K)
                        | ((with_reducible refine wpD_q (fun K hK => ?_)); go_simp; (first | refine hK _ ?_ | (go_bits; refine hK _ ?_) | (go_bits; go_simp; refine hK _ ?_)); clear hK K)
                        | ((with_reducible refine wpD_g (fun K hK => ?_)); go_simp; refine hK _ _ ?_; clear hK K)
                        | ((with_reducible refine wpD_g (fun K hK => ?_)); go_simp; refine ⟨Grew.of_alloc _, hK _ _ ?_⟩; clear hK K)
                        | ((with_reducible refine wpD_g (fun K hK => ?_)); go_simp; refine ⟨Below.refl _ _, hK _ _ ?_⟩; clear hK K))
                      with_reducible refine wpD_nil ?_
                      go_wp2
                      refine wp_region_ord [(0, .q), (1, .q), (2, .q), (3, .q), (4, .q), (5, .q), (6, .q), (7, .q), (8, .q), (9, .g), (10, .q), (11, .q), (12, .q), (13, .q), (14, .q), (15, .q), (16, .q), (17, .q), (23, .q), (18, .g), (19, .g), (20, .q), (21, .q), (22, .q), (24, .g), (25, .q), (26, .q), (27, .q), (28, .q), (29, .q)] (by kernel_rfl) (by kernel_rfl) ?_
                      simp only [pick, List.filterMap_cons, List.filterMap_nil, List.getElem?_toArray, List.getElem?_cons_zero, List.getElem?_cons_succ, Option.map_some]
                      repeat (first
                        | ((with_reducible refine wpD_p (fun K hK => ?_)); go_simp; refine hK _ ?_; clear hK K)
                        | ((with_reducible refine wpD_q (fun K hK => ?_)); go_simp; (first | refine hK _ ?_ | (go_bits; refine hK _ ?_) | (go_bits; go_simp; refine hK _ ?_)); clear hK K)
                        | ((with_reducible refine wpD_g (fun K hK => ?_)); go_simp; refine hK _ _ ?_; clear hK K)
                        | ((with_reducible refine wpD_g (fun K hK => ?_)); go_simp; refine ⟨Grew.of_alloc _, hK _ _ ?_⟩; clear hK K)
                        | ((with_reducible refine wpD_g (fun K hK => ?_)); go_simp; refine ⟨Below.refl _ _, hK _ _ ?_⟩; clear hK K)
                        | ((with_reducible refine wpD_g (fun K hK => ?_)); go_simp; go_at_call 77; refine (meets_tn hctH.out (hTw.out.below RSti.stable (by exact bel_)) (hCw.out.below RSc.stable (by exact bel_)) hVH.out hiH.out (hOw.out.below RBool.stable (by exact bel_)) hd4 hmt.out).mono ?_; rintro e w4 ⟨rfl, hb4⟩; refine ⟨_, rfl, hb4, hK _ _ ?_⟩; clear hK K; obtain ⟨chb4, fhb4, shb4, thb4⟩ := bcell hb4; (try have bhb40 := shb4 (w.heap.size) (by go_simp)); (try have bhb41 := shb4 (w.heap.size + 1) (by go_simp)); (try have bhb42 := shb4 (w.heap.size + 1 + 1) (by go_simp)); (try have bhb43 := shb4 (bB) (by go_simp)); (replace chb4 : ∀ (b o : Nat), b < wc.heap.size → w4.cell? ⟨b, o, none⟩ = wc.cell? ⟨b, o, none⟩ := chb4))
                        | ((with_reducible refine wpD_g (fun K hK => ?_)); go_simp; go_at_call 79; refine (step_any _ _ _ _ hd4 ⟨by omega, by omega⟩ ⟨by omega, by omega⟩).mono ?_; rintro e w5 ⟨rfl, hb5⟩; refine ⟨_, rfl, hb5, hK _ _ ?_⟩; clear hK K; obtain ⟨chb5, fhb5, shb5, thb5⟩ := bcell hb5; (try have bhb50 := shb5 (w.heap.size) (by go_simp)); (try have bhb51 := shb5 (w.heap.size + 1) (by go_simp)); (try have bhb52 := shb5 (w.heap.size + 1 + 1) (by go_simp)); (try have bhb53 := shb5 (bB) (by go_simp)))
                        | ((with_reducible refine wpD_g (fun K hK => ?_)); go_simp; go_at_call 78; refine (at_at (hCw.out.below RSc.stable (by exact bel_)) hVH.out rfl).mono ?_; rintro e w6 ⟨rfl, hb6⟩; refine ⟨_, rfl, hb6, hK _ _ ?_⟩; clear hK K; obtain ⟨chb6, fhb6, shb6, thb6⟩ := bcell hb6; (try have bhb60 := shb6 (w.heap.size) (by go_simp)); (try have bhb61 := shb6 (w.heap.size + 1) (by go_simp)); (try have bhb62 := shb6 (w.heap.size + 1 + 1) (by go_simp)); (try have bhb63 := shb6 (bB) (by go_simp)))
                        | ((with_reducible refine wpD_g (fun K hK => ?_)); go_simp; go_at_call 80; refine (opposite_any _ _ hd4).mono ?_; rintro e _ ⟨rfl, rfl⟩; refine ⟨_, rfl, Below.refl _ _, hK _ _ ?_⟩; clear hK K))
                      with_reducible refine wpD_nil ?_
                      go_wp2
                      go_ret
                      exact ⟨ret_bool hr.out.symm, by have := hbw.out; exact bel_⟩
                    · obtain ⟨k2, nb, hp, hk2, hnx⟩ : ∃ (k2 : Nat) (nb : Sc), placeI (plsOf cs) (stepX c.x d) (stepY c.y d) = k2 ∧ cs[k2]? = some nb ∧ nextC cs c d = some nb := by
                        rcases place_cases hVH.out (stepX c.x d) (stepY c.y d) with ⟨_, h⟩ | ⟨k2, nb, h1, h2, h3⟩
                        · rw [meet_none h] at hmt; cases hmt
                        · exact ⟨k2, nb, h1, h2, h3⟩
                      obtain ⟨bc2, oc2, rfl, hbc, hcc⟩ := hCw.out.ptr (by have := hCw.out.len; have := lt_of_get hk2; omega)
                      obtain ⟨n0, n1, n2, ⟨NO, nn, nc, n3, _⟩, ⟨NB, nbn, nbc, n4, hNB⟩, ⟨NF, nfn, nfc, n5, _⟩⟩ := hcc k2 nb hk2
                      obtain ⟨_, hl4, _⟩ := hVH.out.cell k2 nb hk2
                      rw [hNB.len] at hl4
                      subst hl4
                      obtain ⟨bno, ono, rfl, hbno, hcno⟩ := hNB.ptr (by omega)
                      obtain ⟨vn, hvn⟩ := hNB.get (opp_lt hd4)
                      have cno := hcno (oppN d) vn hvn
                      unfold RBool at cno
                      simp only [Nat.mul_one] at cno
                      have hbo := Lib.hid (show bothB cs c d = vn by rw [both_some hnx, onAt_eq hvn])
                      have hod : ((oppN d : Nat) : Int) < 4 := by have := opp_lt hd4; omega
                      have hkq : k2 < q := by rw [← hCw.out.len]; exact lt_of_get hk2
                      have hpH := Lib.hid hp
                      have hmtH := hmt
                      have hmt := Lib.hid hmt
                      clear hp hcc hk2 hNB hcno hvn hnx
                      
                      cases vn
                      · have hr := Lib.hid (cellB_dir (cs := cs) hTc.out hd4 (show dirC ts cs e c d = false by rw [hdir.out, hbo.out]; simp))
                        clear hmtH
                        go_wp2
                        refine wp_region_ord [(0, .q), (1, .q), (2, .q), (3, .q), (4, .q), (5, .q), (6, .q), (7, .q), (8, .q), (9, .q), (10, .q), (11, .q), (12, .q), (13, .q)] (by kernel_rfl) (by kernel_rfl) ?_
                        simp only [pick, List.filterMap_cons, List.filterMap_nil, List.getElem?_toArray, List.getElem?_cons_zero, List.getElem?_cons_succ, Option.map_some]
                        repeat (first
                          | ((with_reducible refine wpD_p (fun K hK => ?_)); go_simp; refine hK _ ?_; clear hK K)
                          | ((with_reducible refine wpD_q (fun K hK => ?_)); go_simp; (first | refine hK _ ?_ | (go_bits; refine hK _ ?_) | (go_bits; go_simp; refine hK _ ?_)); clear hK K)
                          | ((with_reducible refine wpD_g (fun K hK => ?_)); go_simp; refine hK _ _ ?_; clear hK K)
                          | ((with_reducible refine wpD_g (fun K hK => ?_)); go_simp; refine ⟨Grew.of_alloc _, hK _ _ ?_⟩; clear hK K)
                          | ((with_reducible refine wpD_g (fun K hK => ?_)); go_simp; refine ⟨Below.refl _ _, hK _ _ ?_⟩; clear hK K))
                        with_reducible refine wpD_nil ?_
                        go_wp2
                        refine wp_region_ord [(0, .q), (1, .q), (2, .q), (3, .q), (4, .q), (5, .q), (6, .q), (7, .q), (8, .q), (9, .g), (10, .q), (11, .q), (12, .q), (13, .q), (14, .q), (15, .q), (16, .q), (17, .q), (23, .q), (18, .g), (19, .g), (20, .q), (21, .q), (22, .q), (24, .g), (25, .q), (26, .q), (27, .q), (28, .q), (29, .q)] (by kernel_rfl) (by kernel_rfl) ?_
                        simp only [pick, List.filterMap_cons, List.filterMap_nil, List.getElem?_toArray, List.getElem?_cons_zero, List.getElem?_cons_succ, Option.map_some]
                        repeat (first
                          | ((with_reducible refine wpD_p (fun K hK => ?_)); go_simp; refine hK _ ?_; clear hK K)
                          | ((with_reducible refine wpD_q (fun K hK => ?_)); go_simp; (first | refine hK _ ?_ | (go_bits; refine hK _ ?_) | (go_bits; go_simp; refine hK _ ?_)); clear hK K)
                          | ((with_reducible refine wpD_g (fun K hK => ?_)); go_simp; refine hK _ _ ?_; clear hK K)
                          | ((with_reducible refine wpD_g (fun K hK => ?_)); go_simp; refine ⟨Grew.of_alloc _, hK _ _ ?_⟩; clear hK K)
                          | ((with_reducible refine wpD_g (fun K hK => ?_)); go_simp; refine ⟨Below.refl _ _, hK _ _ ?_⟩; clear hK K)
                          | ((with_reducible refine wpD_g (fun K hK => ?_)); go_simp; go_at_call 77; refine (meets_tn hctH.out (hTw.out.below RSti.stable (by exact bel_)) (hCw.out.below RSc.stable (by exact bel_)) hVH.out hiH.out (hOw.out.below RBool.stable (by exact bel_)) hd4 hmt.out).mono ?_; rintro e w4 ⟨rfl, hb4⟩; refine ⟨_, rfl, hb4, hK _ _ ?_⟩; clear hK K; obtain ⟨chb4, fhb4, shb4, thb4⟩ := bcell hb4; (try have bhb40 := shb4 (w.heap.size) (by go_simp)); (try have bhb41 := shb4 (w.heap.size + 1) (by go_simp)); (try have bhb42 := shb4 (w.heap.size + 1 + 1) (by go_simp)); (try have bhb43 := shb4 (bB) (by go_simp)); (try have bhb44 := shb4 (bc2) (by go_simp)); (try have bhb45 := shb4 (bno) (by go_simp)); (replace chb4 : ∀ (b o : Nat), b < wc.heap.size → w4.cell? ⟨b, o, none⟩ = wc.cell? ⟨b, o, none⟩ := chb4))
                          | ((with_reducible refine wpD_g (fun K hK => ?_)); go_simp; go_at_call 79; refine (step_any _ _ _ _ hd4 ⟨by omega, by omega⟩ ⟨by omega, by omega⟩).mono ?_; rintro e w5 ⟨rfl, hb5⟩; refine ⟨_, rfl, hb5, hK _ _ ?_⟩; clear hK K; obtain ⟨chb5, fhb5, shb5, thb5⟩ := bcell hb5; (try have bhb50 := shb5 (w.heap.size) (by go_simp)); (try have bhb51 := shb5 (w.heap.size + 1) (by go_simp)); (try have bhb52 := shb5 (w.heap.size + 1 + 1) (by go_simp)); (try have bhb53 := shb5 (bB) (by go_simp)); (try have bhb54 := shb5 (bc2) (by go_simp)); (try have bhb55 := shb5 (bno) (by go_simp)))
                          | ((with_reducible refine wpD_g (fun K hK => ?_)); go_simp; go_at_call 78; refine (at_at (hCw.out.below RSc.stable (by exact bel_)) hVH.out hpH.out).mono ?_; rintro e w6 ⟨rfl, hb6⟩; refine ⟨_, rfl, hb6, hK _ _ ?_⟩; clear hK K; obtain ⟨chb6, fhb6, shb6, thb6⟩ := bcell hb6; (try have bhb60 := shb6 (w.heap.size) (by go_simp)); (try have bhb61 := shb6 (w.heap.size + 1) (by go_simp)); (try have bhb62 := shb6 (w.heap.size + 1 + 1) (by go_simp)); (try have bhb63 := shb6 (bB) (by go_simp)); (try have bhb64 := shb6 (bc2) (by go_simp)); (try have bhb65 := shb6 (bno) (by go_simp)))
                          | ((with_reducible refine wpD_g (fun K hK => ?_)); go_simp; go_at_call 80; refine (opposite_any _ _ hd4).mono ?_; rintro e _ ⟨rfl, rfl⟩; refine ⟨_, rfl, Below.refl _ _, hK _ _ ?_⟩; clear hK K))
                        with_reducible refine wpD_nil ?_
                        go_wp2
                        go_ret
                        exact ⟨ret_bool hr.out.symm, by have := hbw.out; exact bel_⟩
                      · have hr := Lib.hid (show dirC ts cs e c d = true by rw [hdir.out, hbo.out, hmtH]; simp)
                        clear hmtH
                        go_wp2
                        refine wp_region_ord [(0, .q), (1, .q), (2, .q), (3, .q), (4, .q), (5, .q), (6, .q), (7, .q), (8, .q), (9, .q), (10, .q), (11, .q), (12, .q), (13, .q)] (by kernel_rfl) (by kernel_rfl) ?_
                        simp only [pick, List.filterMap_cons, List.filterMap_nil, List.getElem?_toArray, List.getElem?_cons_zero, List.getElem?_cons_succ, Option.map_some]
                        repeat (first
                          | ((with_reducible refine wpD_p (fun K hK => ?_)); go_simp; refine hK _ ?_; clear hK K)
                          | ((with_reducible refine wpD_q (fun K hK => ?_)); go_simp; (first | refine hK _ ?_ | (go_bits; refine hK _ ?_) | (go_bits; go_simp; refine hK _ ?_)); clear hK K)
                          | ((with_reducible refine wpD_g (fun K hK => ?_)); go_simp; refine hK _ _ ?_; clear hK K)
                          | ((with_reducible refine wpD_g (fun K hK => ?_)); go_simp; refine ⟨Grew.of_alloc _, hK _ _ ?_⟩; clear hK K)
                          | ((with_reducible refine wpD_g (fun K hK => ?_)); go_simp; refine ⟨Below.refl _ _, hK _ _ ?_⟩; clear hK K))
                        with_reducible refine wpD_nil ?_
                        go_wp2
                        refine wp_region_ord [(0, .q), (1, .q), (2, .q), (3, .q), (4, .q), (5, .q), (6, .q), (7, .q), (8, .q), (9, .g), (10, .q), (11, .q), (12, .q), (13, .q), (14, .q), (15, .q), (16, .q), (17, .q), (23, .q), (18, .g), (19, .g), (20, .q), (21, .q), (22, .q), (24, .g), (25, .q), (26, .q), (27, .q), (28, .q), (29, .q)] (by kernel_rfl) (by kernel_rfl) ?_
                        simp only [pick, List.filterMap_cons, List.filterMap_nil, List.getElem?_toArray, List.getElem?_cons_zero, List.getElem?_cons_succ, Option.map_some]
                        repeat (first
                          | ((with_reducible refine wpD_p (fun K hK => ?_)); go_simp; refine hK _ ?_; clear hK K)
                          | ((with_reducible refine wpD_q (fun K hK => ?_)); go_simp; (first | refine hK _ ?_ | (go_bits; refine hK _ ?_) | (go_bits; go_simp; refine hK _ ?_)); clear hK K)
                          | ((with_reducible refine wpD_g (fun K hK => ?_)); go_simp; refine hK _ _ ?_; clear hK K)
                          | ((with_reducible refine wpD_g (fun K hK => ?_)); go_simp; refine ⟨Grew.of_alloc _, hK _ _ ?_⟩; clear hK K)
                          | ((with_reducible refine wpD_g (fun K hK => ?_)); go_simp; refine ⟨Below.refl _ _, hK _ _ ?_⟩; clear hK K)
                          | ((with_reducible refine wpD_g (fun K hK => ?_)); go_simp; go_at_call 77; refine (meets_tn hctH.out (hTw.out.below RSti.stable (by exact bel_)) (hCw.out.below RSc.stable (by exact bel_)) hVH.out hiH.out (hOw.out.below RBool.stable (by exact bel_)) hd4 hmt.out).mono ?_; rintro e w4 ⟨rfl, hb4⟩; refine ⟨_, rfl, hb4, hK _ _ ?_⟩; clear hK K; obtain ⟨chb4, fhb4, shb4, thb4⟩ := bcell hb4; (try have bhb40 := shb4 (w.heap.size) (by go_simp)); (try have bhb41 := shb4 (w.heap.size + 1) (by go_simp)); (try have bhb42 := shb4 (w.heap.size + 1 + 1) (by go_simp)); (try have bhb43 := shb4 (bB) (by go_simp)); (try have bhb44 := shb4 (bc2) (by go_simp)); (try have bhb45 := shb4 (bno) (by go_simp)); (replace chb4 : ∀ (b o : Nat), b < wc.heap.size → w4.cell? ⟨b, o, none⟩ = wc.cell? ⟨b, o, none⟩ := chb4))
                          | ((with_reducible refine wpD_g (fun K hK => ?_)); go_simp; go_at_call 79; refine (step_any _ _ _ _ hd4 ⟨by omega, by omega⟩ ⟨by omega, by omega⟩).mono ?_; rintro e w5 ⟨rfl, hb5⟩; refine ⟨_, rfl, hb5, hK _ _ ?_⟩; clear hK K; obtain ⟨chb5, fhb5, shb5, thb5⟩ := bcell hb5; (try have bhb50 := shb5 (w.heap.size) (by go_simp)); (try have bhb51 := shb5 (w.heap.size + 1) (by go_simp)); (try have bhb52 := shb5 (w.heap.size + 1 + 1) (by go_simp)); (try have bhb53 := shb5 (bB) (by go_simp)); (try have bhb54 := shb5 (bc2) (by go_simp)); (try have bhb55 := shb5 (bno) (by go_simp)))
                          | ((with_reducible refine wpD_g (fun K hK => ?_)); go_simp; go_at_call 78; refine (at_at (hCw.out.below RSc.stable (by exact bel_)) hVH.out hpH.out).mono ?_; rintro e w6 ⟨rfl, hb6⟩; refine ⟨_, rfl, hb6, hK _ _ ?_⟩; clear hK K; obtain ⟨chb6, fhb6, shb6, thb6⟩ := bcell hb6; (try have bhb60 := shb6 (w.heap.size) (by go_simp)); (try have bhb61 := shb6 (w.heap.size + 1) (by go_simp)); (try have bhb62 := shb6 (w.heap.size + 1 + 1) (by go_simp)); (try have bhb63 := shb6 (bB) (by go_simp)); (try have bhb64 := shb6 (bc2) (by go_simp)); (try have bhb65 := shb6 (bno) (by go_simp)))
                          | ((with_reducible refine wpD_g (fun K hK => ?_)); go_simp; go_at_call 80; refine (opposite_any _ _ hd4).mono ?_; rintro e _ ⟨rfl, rfl⟩; refine ⟨_, rfl, Below.refl _ _, hK _ _ ?_⟩; clear hK K))
                        with_reducible refine wpD_nil ?_
                        go_wp2
                        go_roundg (4 - (d + 1))
                        case measure => omega
                        case rel => exact ⟨d + 1, by omega, by go_num, Lib.hid fun j hj => (by rcases Nat.lt_succ_iff_lt_or_eq.1 hj with hj | rfl; exact hok.out j hj; exact hr.out), box_step hbw hb0 hb1x hb2x (by exact bel_)⟩
        · obtain rfl : d = 4 := by omega
          go_wp2
          go_ret
          exact ⟨ret_bool (cellB_ok hTc.out (fun j hj => hokF.out j (by rw [← hfeL.out]; exact hj)) hok.out).symm, hbw.out⟩
end Go.Proofs.Ytbipnnjkddffbaa
