/- Walk: the program's system of a shape. -/
import Derived.Test.YtdcndhiidjgmaaaGreatDoorSy0
import Derived.Test.YtdcndhiidjgmaaaGreatDoorDn
import Derived.Test.YtdcndhiidjgmaaaGreatDoorKG
import Derived.LaidEqlPtr
namespace Go.Proofs.YtdcndhiidjgmaaaGreatDoor
open Go.RowKit Go.Shelf
set_option linter.unusedSimpArgs false
set_option linter.unusedVariables false
attribute [local go_sem] BelowBy.cell BelowBy.cell_drew stillUpon givesUpon

theorem SyRes.nil_ {w w' : World} {r : Sy × Int} {c : Int} (h : noSy c = r) (hb : Below w.heap.size w w') : SyRes w r (.returned (.tuple #[.agg #[.slice none 0 0, .slice none 0 0, .slice none 0 0, .int .i64 0], .int .i64 c])) w' := by
  subst h
  exact ⟨Option.none, Option.none, Option.none, 0, 0, 0, [], rfl, OwnSy.empty w' hb.size, hb⟩
theorem made4 {w : World} {base b k : Nat} {o : Obj} (hb : base ≤ b) (h : w.heap[b]? = some (Obj.cells (madeCells #[Value.int .i64 0] 4) 2)) : (w.alloc o).ownsRow base 2 1 (.slice (some ⟨b, 0, none⟩) 4 4) (tileP k).sides.length (flatC encI (tileP k).sides) := by
  refine World.ownsRow.alloc (w := w) ?_ o
  refine ⟨rfl, .inr ⟨b, 4, madeCells #[Value.int .i64 0] 4, rfl, hb, h, Nat.le_refl _, by decide, by rw [size_madeCells], ?_⟩⟩
  rw [toList_madeCells_one]
  rfl
theorem wpD_look {ops : Array Oper} {rest : List (Oper × Tag)} {o : Oper} {a : Act} {Q : Act → World → Prop} {w : World} (hw : Region.wanted o (yielded ops a.tmps) = true) (m k : Operand) (hop : o.op = Op.lookup 54 m k false) (b n : Nat) (M : Int → Int → Option Nat) (hm : a.eval m = .map (some b)) (h : TMap w b n M) (x y : Int) (hx : W64 x) (hy : W64 y) (hk : a.eval k = .agg #[.int .i64 x, .int .i64 y])
    (g : Nat) (hr : M x y = some g) (hK : wpD Tryz.prog ops Q rest (a.put o.dst (.pointer (some ⟨g, 0, none⟩))) w) : wpD Tryz.prog ops Q ((o, .q) :: rest) a w := by
  simp only [wpD, hw, if_true]
  refine ⟨.pointer (some ⟨g, 0, none⟩), fun p => ?_, hK⟩
  obtain ⟨D, hown, hat, _⟩ := h.below p.h
  obtain ⟨v, ps, hrun, hv⟩ := hown.lookup pt_keyed Tryz.underlying54 (zero_tp p.world) (ptrElem_mk none) (keyOf_pt hx hy)
  rw [show ptrI none = -1 from rfl, (hat x y hx hy).2] at hv
  obtain ⟨o', rfl, hv'⟩ := ptrElem_inv v _ hv
  injection hv' with hv1
  injection hv1 with hv1
  injection hv1 with _ hv1
  obtain rfl := ptrI_inj hv1
  unfold stillUpon
  simp only [execOp, hop, hm, hk, Sem.run_bind, Sem.run_pure, hrun, Result.andThen_ok]
  rw [hr]
  first | exact ⟨trivial, rfl⟩ | exact ⟨rfl, rfl⟩
theorem mapA_iff {f : Option Nat} {g : Nat} : (f.map fun g => (⟨g, 0, none⟩ : Addr)) = some ⟨g, 0, none⟩ ↔ f = some g := by
  cases f with
  | none => simp
  | some x => simp
theorem infoTrip : (Tryz.prog.info? 66).map (fun i => (i.size != 0)) = some true := by kernel_rfl
theorem eql_none_some {t te : TypeId} (W : World) (a : Addr) (h : Tryz.prog.underlying t = some (.pointer te)) : (binOp .eql t (.pointer none) (.pointer (some a))).run Tryz.prog W = .ok (.bool false) W := by
  have h1 : ∀ d : Nat, (Op.equalIn (d + 1) t (.pointer none) (.pointer (some a))).run Tryz.prog W = .ok false W := fun d => by
    simp [Op.equalIn, run_underlying h]
  simp only [binOp]
  simp [Op.equal, Op.maxDepth, h1 9999]
theorem trip_eq {w2 W : World} {B : Nat} {ps : List Pt} {st : WaySt} {T : Nat → Option Nat} (h : Trips w2 B ps st T) (hb : Below w2.heap.size w2 W) {u gk : Nat} {f : Option Nat} {po : Option Addr} {dv : Int} {v : Nat} (hm : u ∈ st.1) (hu : T u = some gk)
    (hf : (dv = -1 ∧ f = none) ∨ ∃ dn u : Nat, dv = (dn : Int) ∧ dn < 4 ∧ nbP ps v dn = some u ∧ u ∈ st.1 ∧ f = T u) (hpo : (f.map fun g => (⟨g, 0, none⟩ : Addr)) = po) :
    (binOp .eql 64 (.pointer po) (.pointer (some ⟨gk, 0, none⟩))).run Tryz.prog W = .ok (.bool (decide (po = some ⟨gk, 0, none⟩))) W := by
  obtain ⟨j, hj, hsz⟩ : ∃ j, Tryz.prog.info? 66 = some j ∧ j.size ≠ 0 := by
    obtain ⟨j, hj, h2⟩ := Option.map_eq_some_iff.1 infoTrip
    exact ⟨j, hj, by simpa using h2⟩
  have hblk : ∀ x g, x ∈ st.1 → T x = some g → ∃ c, W.heap[g]? = some (Obj.cells c 66) := fun x g hx hg => by
    obtain ⟨g', e, f', d, s, h1, _, _, _, _, h6, _⟩ := h.on x hx
    rw [hg] at h1
    injection h1 with h1
    subst h1
    obtain ⟨c, hc⟩ := h6.ob
    exact ⟨c, (hb.block g h6.lt).trans hc⟩
  rcases hf with ⟨_, rfl⟩ | ⟨dn, u', _, _, _, hm', rfl⟩
  · subst hpo
    simp only [Option.map_none]
    rw [eql_none_some W _ Tryz.underlying64]
    simp
  · obtain ⟨g', e, f', d, s, h1, _⟩ := h.on u' hm'
    rw [h1] at hpo
    subst hpo
    simp only [Option.map_some]
    by_cases e : g' = gk
    · subst e
      rw [run_eql_ptr_same W _ Tryz.underlying64 hj]
      simp
    · obtain ⟨c1, k1⟩ := hblk u' g' hm' h1
      obtain ⟨c2, k2⟩ := hblk u gk hm hu
      rw [run_eql_ptr_other W Tryz.underlying64 hj hsz (fun e2 => e (congrArg Addr.block e2)) k1 k2]
      simp [e]
set_option maxRecDepth 100000 in
set_option maxHeartbeats 8000000 in
theorem shapeSystem_any (A : Option Addr) (n c : Nat) (ps : List Pt) (r : Int) (solid : Bool) (w : World) (h : RdSl 2 RPt w A n ps) (hn : n ≤ 1073741824) (hT : Tab w) :
    Calls Tryz.prog 18 #[.slice A n c, .int .i64 r, .bool solid] w (SyRes w (shapeS ps r solid)) := by
  obtain ⟨iT, hiT, hT0, hT1, hT2⟩ := info_parts infoTi
  obtain ⟨iG, hiG, hG0, hG1, hG2⟩ := info_parts infoGl
  have hl := Lib.hid h.len
  have hH := Lib.hid h
  have hTab := Lib.hid hT
  clear h hT
  by_cases hc : treeC ps r = 0
  · obtain ⟨hS, hone, hp1, hp2, rn, rfl, hr⟩ := treeC_zero hc
    have hcH := Lib.hid hc
    rw [hl.out] at hp1 hp2 hr
    by_cases hf : 160 < n
    · have hR := Lib.hid (shapeS_full (solid := solid) hc (by rw [hl.out]; exact hf)).symm
      have hfI : (n : Int) > 160 := by omega
      clear hc hS hone
      go_enter Tryz.func18, Tryz.ntmps18
      go_wp2_with fail
      refine (rootCode_at (hH.out.below RPt.stable (bl_al (bl_refl _) _)) hn hcH.out).mono ?_
      rintro e w1 ⟨rfl, hb1⟩
      have hb1H := Lib.hid (show Below w.heap.size w w1 from (bl_al (bl_refl _) _).trans (hb1.mono (by simp)))
      have y0 : ∀ j, j < 4 → w1.cell? ⟨w.heap.size, j, none⟩ = (w.alloc (Obj.cells #[.slice none 0 0, .slice none 0 0, .slice none 0 0, .int .i64 0] 32)).cell? ⟨w.heap.size, j, none⟩ := fun j _ => hb1.cell (p := ⟨w.heap.size, j, none⟩) (by simp)
      have f0 : ∀ j, w1.frozen? ⟨w.heap.size, j, none⟩ = false := fun j => (World.frozen?_of_block (a := ⟨w.heap.size, j, none⟩) (hb1.block w.heap.size (by simp))).trans (by go_simp)
      have l0 : w.heap.size < w1.heap.size := by have := hb1.size; simp at this; omega
      clear hb1
      go_wp2
      refine bodyPost_ret (v := .tuple #[.agg #[.slice none 0 0, .slice none 0 0, .slice none 0 0, .int .i64 0], .int .i64 4]) (by simp only [results, Tryz.results18]; go_simp) rfl ?_
      exact SyRes.nil_ hR.out (bl_sys hb1H.out _ _ _ _)
    · obtain ⟨par, hpar⟩ : ∃ par, (ways (nbP ps) ps.length rn).1 = par := ⟨_, rfl⟩
      have hparH := Lib.hid hpar
      have hall := Lib.hid (fun (v : Nat) (hv : v < ps.length) => reach_all (nb := nbP ps) (n := ps.length) (r := rn) (of_decide_eq_true hone) (by rw [hl.out]; exact hr) (fun u d v hu hd hv => nbP_sym hS u d v hu hd hv) hv)
      obtain ⟨e0, he⟩ : ∃ e, ps[rn]? = some e := ⟨_, List.getElem?_eq_getElem (by rw [hl.out]; exact hr)⟩
      obtain ⟨ex, ey⟩ := e0
      obtain ⟨bb, ob, rfl, hbb, hbc⟩ := hH.out.ptr (by omega)
      obtain ⟨x0, x1⟩ := hbc rn _ he
      have hrI0 : (0 : Int) ≤ (rn : Int) := by omega
      have hrI : (rn : Int) < (n : Int) := by omega
      have hfI : ¬ (n : Int) > 160 := by omega
      have hcH2 := Lib.hid hc
      have hSH := Lib.hid hS
      have heH := Lib.hid he
      clear hc hS hone hpar hbc he
      go_enter Tryz.func18, Tryz.ntmps18
      go_wp2_with fail
      refine (rootCode_at (hH.out.below RPt.stable (bl_al (bl_refl _) _)) hn hcH.out).mono ?_
      rintro e w1 ⟨rfl, hb1⟩
      have hb1H := Lib.hid (show Below w.heap.size w w1 from (bl_al (bl_refl _) _).trans (hb1.mono (by simp)))
      have bR := Lib.hid ((Bx.made w [.slice none 0 0, .slice none 0 0, .slice none 0 0, .int .i64 0] 32).below hb1)
      have x0 := (hb1H.out.cell (p := ⟨bb, ob + rn * 2, none⟩) hbb).trans x0
      have x1 := (hb1H.out.cell (p := ⟨bb, ob + rn * 2 + 1, none⟩) hbb).trans x1
      have lb := Nat.lt_of_lt_of_le hbb hb1H.out.size
      clear hb1
      go_wp2_with fail
      refine (reach_any _ _ _ ps rn _ _ _ (hH.out.below RPt.stable hb1H.out) hSH.out (by omega) heH.out).mono ?_
      rintro e w2 ⟨bt, mt, T, rfl, hM, hmt, hTr, hb2⟩
      have hb2H := Lib.hid (hb1H.out.trans (hb2.mono hb1H.out.size))
      have hMH := Lib.hid hM
      have hTrH := Lib.hid hTr
      have bR2 := Lib.hid (bR.out.below hb2)
      have hTab2 := Lib.hid (hTab.out.below hb2H.out)
      have hsz2 := hb2H.out.size
      have lR := bR2.out.lt
      clear hM hTr hb2 bR x0 x1 lb
      go_wp2
      go_loopg [40] n (fun g i wr => ∃ (k : Nat) (us : List Value) (B2 : Option Addr) (c2 : Nat), k + g = n ∧ i = .int .i64 (k : Int) ∧ Hid (us.length = k) ∧ Hid (OwnT wr (w2.heap.size + 1) 59 2 (.slice B2 k c2) us (tiles0 k)) ∧ Hid (Bx wr w2.heap.size [.slice none 0 0, .slice B2 k c2]) ∧ Hid (Below w2.heap.size w2 wr))
      case atStart => exact ⟨0, [], none, 0, by omega, rfl, Lib.hid rfl, Lib.hid (OwnT.nil _ _ _ _), Lib.hid (Bx.made w2 [.slice none 0 0, .slice none 0 0] 27), Lib.hid (bl_al (bl_refl _) _)⟩
      case round =>
        obtain ⟨k, us, B2, c2, hk, rfl, hul, hO, bS, hbw⟩ := hrel
        have hszl := hbw.out.size
        have y1 := bS.out.cell 1 _ rfl
        have f1 := bS.out.froz 1
        have lS := bS.out.lt
        by_cases hkn : k < n
        · have hTabr := Lib.hid (hTab2.out.below hbw.out)
          obtain ⟨nm, hnm⟩ : ∃ nm, (⟨#[112]⟩ : ByteArray) ++ decN k = nm := ⟨_, rfl⟩
          go_wp2_with fail
          refine wp_region_flV slV 4 [(0, .p), (1, .q), (2, .q), (3, .g)] [(5, .p), (6, .g), (7, .b), (8, .p), (9, .b)] _ (Obj.cells (madeCells #[Value.int .i64 0] 4) 2) (by kernel_rfl) (by kernel_rfl) (by kernel_rfl) (by kernel_rfl) rfl (fun a w => ⟨rfl, by unfold slV; have hmk : Sem.run Tryz.prog (Instr.makeSlice 57 (.int .i64 4) (.int .i64 4)) w = .ok (.slice (some ⟨w.heap.size, 0, none⟩) 4 4) (w.alloc (Obj.cells (madeCells #[Value.int .i64 0] 4) 2)) := run_makeN (P := Tryz.prog) 57 2 _ 1 8 Tryz.underlying57 infoI 4 (by omega) (by omega) w; go_simp⟩) ?_
          simp only [pick, List.filterMap_cons, List.filterMap_nil, List.getElem?_toArray, List.getElem?_cons_zero, List.getElem?_cons_succ, Option.map_some]
          repeat (first | ((with_reducible refine wpL_p (fun K hK => ?_)); go_simp; refine hK _ ?_; clear hK K) | ((with_reducible refine wpL_q (fun K hK => ?_)); go_simp; (first | refine hK _ ?_ | (go_bits; refine hK _ ?_) | (go_bits; go_simp; refine hK _ ?_)); clear hK K))
          with_reducible refine wpL_g rfl (fun K hK st4 u4 mv4 => ?_)
          have hu4 := mv4.below
          have fu4 := (FlAt.none (Obj.cells (madeCells #[Value.int .i64 0] 4) 2) (World.drew wr)).mv mv4
          have j4 : Below wr.heap.size wr u4 := (Below.refl _ wr).drew.trans (hu4.mono (Nat.le_refl _))
          clear mv4
          go_simp
          refine (numbered_n (u := k) _ (by decide) (by omega) (hTabr.out.below j4) hnm).mono ?_
          rintro e wb ⟨rfl, hb6⟩
          refine ⟨_, rfl, hb6, hK _ _ _ ?_⟩
          clear hK K
          have fd4 := fu4.below hb6
          have j5 : Below wr.heap.size wr wb := j4.trans (hb6.mono j4.size)
          repeat (first | ((with_reducible refine wpL_p (fun K hK => ?_)); go_simp; refine hK _ ?_; clear hK K) | ((with_reducible refine wpL_q (fun K hK => ?_)); go_simp; (first | refine hK _ ?_ | (go_bits; refine hK _ ?_) | (go_bits; go_simp; refine hK _ ?_)); clear hK K))
          with_reducible refine wpL_nil (fun b9 wc mvF => ?_)
          have huF := mvF.below
          obtain ⟨fl9, fb9⟩ := (fd4.mv mvF).2 _ rfl
          have j8 : Below wr.heap.size wr wc := j5.trans (huF.mono j5.size)
          clear mvF
          simp only [World.size_drew] at fl9
          simp only [slV]
          repeat (first | ((with_reducible refine wpD_p (fun K hK => ?_)); go_simp; refine hK _ ?_; clear hK K) | ((with_reducible refine wpD_q (fun K hK => ?_)); go_simp; (first | refine hK _ ?_ | (go_bits; refine hK _ ?_) | (go_bits; go_simp; refine hK _ ?_)); clear hK K))
          with_reducible refine wpD_g (fun K hK => ?_)
          go_simp
          refine ⟨Grew.of_alloc _, hK _ _ ?_⟩
          clear hK K
          have hA4 : Below wc.heap.size wc (wc.alloc (Obj.cells #[Value.string nm, Value.slice (some ⟨b9, 0, none⟩) 4 4] 59)) := bl_al (bl_refl _) _
          have j9 : Below wr.heap.size wr (wc.alloc (Obj.cells #[Value.string nm, Value.slice (some ⟨b9, 0, none⟩) 4 4] 59)) := j8.trans (hA4.mono j8.size)
          have hs8 := j8.size
          have hO9 := Lib.hid (hO.out.below j9)
          have hout := hO9.out.outer
          rw [hul.out] at hout
          refine wpD_append_atN rfl _ _ 25 rfl (w2.heap.size + 1) 59 iT (.agg #[.string ByteArray.empty, .slice none 0 0]) 2 40 Tryz.underlying25 hiT hT0 hT1 hT2 rfl (by decide) (.slice B2 k c2) k (flatC encNU (((tiles0 k).map Ti.name).zip us)) (by go_simp) hout ⟨wc.heap.size, 0, none⟩ 1 1 [.string nm, .slice (some ⟨b9, 0, none⟩) 4 4] (by go_simp) rfl (cell_two_newN _ _ _ _) (fun x hx => by simp at hx; rcases hx with rfl | rfl <;> rfl) (by unfold maxLen; omega) (by omega) (by simp; omega) ?_
          intro v5 w5 hown5 hgrow5 hat5
          obtain ⟨A5, c5, rfl⟩ := ownsRow_form hown5
          have hx9 : (wc.alloc (Obj.cells #[Value.string nm, Value.slice (some ⟨b9, 0, none⟩) 4 4] 59)).ownsRow (w2.heap.size + 1) 2 1 (.slice (some ⟨b9, 0, none⟩) 4 4) (tileP k).sides.length (flatC encI (tileP k).sides) := made4 (by omega) fb9
          have hT5 : OwnT w5 (w2.heap.size + 1) 59 2 (.slice A5 (k + 1) c5) (us ++ [.slice (some ⟨b9, 0, none⟩) 4 4]) (tiles0 (k + 1)) := hO9.out.push hul.out hx9 (fun g e => by
            have e3 : b9 = g := by injection e
            clear e
            subst e3
            refine ⟨fun e2 => ?_, fun j u hu e2 => ?_⟩
            · have := (hO.out.lt _ e2).2; omega
            · have := (hO.out.ltIn hu _ e2).2; omega) (by rw [show (tileP k).name = nm from hnm]; exact hown5) hgrow5 hat5
          have hT5H := Lib.hid hT5
          have hul5 := Lib.hid (show (us ++ [Value.slice (some ⟨b9, 0, none⟩) 4 4]).length = k + 1 by rw [List.length_append, hul.out]; rfl)
          have bS5 := Lib.hid ((bS.out.below j9).grown hgrow5 (fun e => by have := (hO.out.lt _ e).1; omega))
          have bw5 := Lib.hid ((hbw.out.trans (j9.mono hszl)).grown hgrow5 (by simp; omega) (fun g e => by have := (hO.out.lt g e).1; omega))
          have q1 := bS5.out.cell 1 _ rfl
          have qf := bS5.out.froz 1
          have ql := bS5.out.lt
          clear hown5 hgrow5 hat5 hT5 hx9 hA4 j9 hO9 hout fb9 fl9 j8 huF j5 j4 hu4 fu4 fd4 hb6 y1 f1 lS hbw bS hO
          repeat (first | ((with_reducible refine wpD_p (fun K hK => ?_)); go_simp; refine hK _ ?_; clear hK K) | ((with_reducible refine wpD_q (fun K hK => ?_)); go_simp; (first | refine hK _ ?_ | (go_bits; refine hK _ ?_) | (go_bits; go_simp; refine hK _ ?_)); clear hK K))
          with_reducible refine wpD_b (fun K hK => ?_)
          go_simp
          refine hK _ _ ?_
          clear hK K
          with_reducible refine wpD_nil ?_
          go_wp2
          go_roundg (n - (k + 1))
          case measure => omega
          case rel => exact ⟨k + 1, _, A5, c5, by omega, by go_num, hul5, Lib.hid (hT5H.out.setBelow (p := ⟨w2.heap.size, 1, none⟩) (Nat.lt_succ_self _) _), Lib.hid (bS5.out.setSame 1 _), Lib.hid (bw5.out.setCell (p := ⟨w2.heap.size, 1, none⟩) (Nat.le_refl _) _)⟩
        · obtain rfl : k = n := by omega
          have hpl := hl.out
          obtain ⟨B, hB⟩ : ∃ B, B = w2.heap.size := ⟨_, rfl⟩
          have hszB : B < wr.heap.size := by omega
          clear y1 f1 lS
          rw [← hB] at hO bS ⊢
          have hBl : w2.heap.size ≤ B := by omega
          have hBH := Lib.hid hB
          clear hB
          go_wp2
          go_loopg [55] k (fun g i wr => ∃ (v : Nat) (st : GT) (us : List Value) (A1 : Option Addr) (c1 : Nat) (B2 : Option Addr) (c2 : Nat), v + g = k ∧ i = .int .i64 (v : Int) ∧ Hid (glueI ps par solid ([], tiles0 k) v = st) ∧ Hid (OwnT wr (B + 1) 59 2 (.slice B2 k c2) us st.2) ∧ Hid (wr.ownsRow (B + 1) 69 2 (.slice A1 st.1.length c1) st.1.length (flatC encGl st.1)) ∧ Hid (Bx wr B [.slice A1 st.1.length c1, .slice B2 k c2]) ∧ Hid (Below w2.heap.size w2 wr) ∧ B < wr.heap.size)
          case atStart => exact ⟨0, ([], tiles0 k), us, none, 0, B2, c2, by omega, rfl, Lib.hid rfl, hO, Lib.hid (World.ownsRow_nil _ _ _ _), bS, hbw, hszB⟩
          case round =>
            clear hO bS hbw hszl hszB hul
            obtain ⟨v, st, us, A1, c1, B2, c2, hv, rfl, hst, hO, hG, bS, hbw, hszB⟩ := hrel
            by_cases hvn : v < k
            · have hAw := (hH.out.below RPt.stable hb2H.out).below RPt.stable hbw.out
              obtain ⟨bb', ob', eA, hbb', hbc⟩ := hAw.ptr (by omega)
              injection eA with eA
              injection eA with eA1 eA2 _
              subst eA1 eA2
              obtain ⟨⟨px, py⟩, hp⟩ := hAw.get hvn
              obtain ⟨p0, p1⟩ := hbc v _ hp
              have hpt := hSH.out.pt v _ hp
              simp only at hpt p0 p1
              have hpH := Lib.hid hp
              clear hbc hp hAw
              obtain ⟨W0, hW0⟩ : ∃ W0 : World, W0 = wr := ⟨_, rfl⟩
              go_wp2
              obtain ⟨b1, hb1⟩ : ∃ b1, b1 = wr.heap.size := ⟨_, rfl⟩
              have bP := Lib.hid (show Bx ((wr.alloc (Obj.cells #[.int .i64 px, .int .i64 py] 44)).alloc (Obj.cells #[.int .i64 1, .int .i64 0] 2)) b1 [.int .i64 px, .int .i64 py] by rw [hb1]; exact (Bx.made wr [.int .i64 px, .int .i64 py] 44).below (bl_al (bl_refl _) _))
              have bD := Lib.hid (show Bx ((wr.alloc (Obj.cells #[.int .i64 px, .int .i64 py] 44)).alloc (Obj.cells #[.int .i64 1, .int .i64 0] 2)) (b1 + 1) [.int .i64 1, .int .i64 0] by rw [hb1]; have := Bx.made (wr.alloc (Obj.cells #[.int .i64 px, .int .i64 py] 44)) [.int .i64 1, .int .i64 0] 2; simpa using this)
              have hja : Below wr.heap.size wr ((wr.alloc (Obj.cells #[.int .i64 px, .int .i64 py] 44)).alloc (Obj.cells #[.int .i64 1, .int .i64 0] 2)) := bl_al (bl_al (bl_refl _) _) _
              have hO1 := Lib.hid (hO.out.below hja)
              have hG1 := Lib.hid (ownsRow_below hG.out hja)
              have bS1 := Lib.hid (bS.out.below hja)
              have bw1 := Lib.hid (hbw.out.trans (hja.mono hbw.out.size))
              have hs1 : b1 + 2 ≤ ((wr.alloc (Obj.cells #[.int .i64 px, .int .i64 py] 44)).alloc (Obj.cells #[.int .i64 1, .int .i64 0] 2)).heap.size := by rw [hb1]; simp
              have hBb : B < b1 := by omega
              have hub : Hid (∀ (q : Nat) (u : Value) (g : Nat), us[q]? = some u → u.ownBlock = some g → B + 1 ≤ g ∧ g < b1) := Lib.hid (fun q u g hu hb => by rw [hb1]; exact hO.out.ltIn hu g hb)
              have hgb : Hid (∀ q, (Value.slice A1 st.1.length c1).ownBlock = some q → q ≠ b1 ∧ q ≠ b1 + 1) := Lib.hid (fun q hq => by have := (hG.out.lt q hq).2; omega)
              rw [← hb1]
              obtain ⟨W1, hW1⟩ : ∃ W1, W1 = (wr.alloc (Obj.cells #[.int .i64 px, .int .i64 py] 44)).alloc (Obj.cells #[.int .i64 1, .int .i64 0] 2) := ⟨_, rfl⟩
              rw [← hW1] at hO1 hG1 bS1 bw1 hs1 bP bD ⊢
              clear hW1 hja p0 p1 hO hG bS hbw hszB hb1 hW0
              go_loopg [62] 2 (fun g i wy => ∃ (j : Nat) (sj : GT) (A1 : Option Addr) (c1 : Nat), j + g = 2 ∧ i = .int .i64 (j : Int) ∧ Hid (glueJ ps par solid v st j = sj) ∧ Hid (OwnT wy (B + 1) 59 2 (.slice B2 k c2) us sj.2) ∧ Hid (wy.ownsRow (B + 1) 69 2 (.slice A1 sj.1.length c1) sj.1.length (flatC encGl sj.1)) ∧ Hid (Bx wy B [.slice A1 sj.1.length c1, .slice B2 k c2]) ∧ Hid (Bx wy b1 [.int .i64 px, .int .i64 py]) ∧ Hid (Bx wy (b1 + 1) [.int .i64 1, .int .i64 0]) ∧ Hid (Below w2.heap.size w2 wy) ∧ Hid (∀ q, (Value.slice A1 sj.1.length c1).ownBlock = some q → q ≠ b1 ∧ q ≠ b1 + 1) ∧ b1 + 2 ≤ wy.heap.size)
              case atStart => exact ⟨0, st, A1, c1, by omega, rfl, Lib.hid rfl, hO1, hG1, bS1, bP, bD, bw1, hgb, hs1⟩
              case round =>
                clear hO1 hG1 bS1 bP bD bw1 hs1 hgb
                obtain ⟨j, sj, A1, c1, hj, rfl, hsj, hO, hG, bS, bP, bD, hbw, hgb, hsz⟩ := hrel
                by_cases hj2 : j < 2
                · obtain ⟨d, hd⟩ : ∃ d, 1 - j = d := ⟨_, rfl⟩
                  have hd4 : d < 4 := by omega
                  have hdH := Lib.hid hd
                  have p0 := bP.out.cell 0 _ rfl
                  have p1 := bP.out.cell 1 _ rfl
                  have dj := bD.out.cell j (.int .i64 (d : Int)) (by rcases (show j = 0 ∨ j = 1 by omega) with rfl | rfl <;> subst hd <;> rfl)
                  have lb1 : b1 < wr.heap.size := by omega
                  have lb2 : b1 + 1 < wr.heap.size := by omega
                  have lB := bS.out.lt
                  have hjI : (j : Int) < 2 := by omega
                  have hj0 : (0 : Int) ≤ (j : Int) := by omega
                  obtain ⟨sx, hsxe⟩ : ∃ sx, stepX px (d : Nat) = sx := ⟨_, rfl⟩
                  obtain ⟨sy, hsye⟩ : ∃ sy, stepY py (d : Nat) = sy := ⟨_, rfl⟩
                  have hsr : (-62 ≤ sx ∧ sx ≤ 62) ∧ (-62 ≤ sy ∧ sy ≤ 62) := by
                    rw [← hsxe, ← hsye]
                    have : d = 0 ∨ d = 1 ∨ d = 2 ∨ d = 3 := by omega
                    rcases this with rfl | rfl | rfl | rfl <;> simp [stepX, stepY] <;> omega
                  have hsxH := Lib.hid hsxe
                  have hsyH := Lib.hid hsye
                  have hAy := Lib.hid ((hH.out.below RPt.stable hb2H.out).below RPt.stable hbw.out)
                  clear hsxe hsye hd
                  go_wp2_with fail
                  refine (step_any _ _ _ _ hd4 ⟨by omega, by omega⟩ ⟨by omega, by omega⟩).mono ?_
                  rw [hsxH.out, hsyH.out]
                  rintro e w3 ⟨rfl, hb3⟩
                  have hq3 : Below wr.heap.size wr (w3.alloc (Obj.cells #[.int .i64 sx, .int .i64 sy] 44)) := hb3.trans ((bl_al (bl_refl _) _).mono hb3.size)
                  have bQ := Lib.hid (Bx.made w3 [.int .i64 sx, .int .i64 sy] 44)
                  have hq3H := Lib.hid hq3
                  have hs3 := hb3.size
                  clear hb3 hq3
                  go_wp2_with fail
                  refine (BinarySearchP_any _ _ _ ps _ _ _ (hAy.out.below RPt.stable hq3H.out) hSH.out.sortedS (by omega)).mono ?_
                  rintro e w4 ⟨rI, fb, rfl, hstop, hb4⟩
                  have hq4 : Below wr.heap.size wr w4 := hq3H.out.trans (hb4.mono hq3H.out.size)
                  have hs4 := hq4.size
                  have hmem := hstop.mem
                  have bQ4 := Lib.hid (bQ.out.below hb4)
                  have hO4 := Lib.hid (hO.out.below hq4)
                  have hG4 := Lib.hid (ownsRow_below hG.out hq4)
                  have bS4 := Lib.hid (bS.out.below hq4)
                  have bP4 := Lib.hid (bP.out.below hq4)
                  have bD4 := Lib.hid (bD.out.below hq4)
                  have bw4 := Lib.hid (hbw.out.trans (hq4.mono hbw.out.size))
                  have hstopH := Lib.hid hstop
                  clear hq4 hb4 hq3H bQ hO hG bS bP bD hbw p0 p1 dj lb1 lb2 lB hAy hstop
                  cases hix : idxP ps sx sy with
                  | none =>
                    obtain rfl : fb = false := hmem.trans (idxP_off hix)
                    have hnb := Lib.hid (show nbP ps v d = none by unfold nbP; rw [hpH.out]; simp only; rw [hsxH.out, hsyH.out]; exact hix)
                    clear hmem hix
                    go_wp2_with fail
                    refine wp_region_ord [(0, .q), (1, .q), (2, .q), (3, .q), (4, .q), (5, .q), (6, .q), (7, .q), (8, .q), (9, .q), (10, .q), (11, .q), (12, .q), (13, .q), (14, .q), (15, .q), (16, .q), (17, .q), (18, .q), (19, .q), (20, .q), (21, .q), (22, .q), (23, .q), (24, .q)] (by kernel_rfl) (by kernel_rfl) ?_
                    simp only [pick, List.filterMap_cons, List.filterMap_nil, List.getElem?_toArray, List.getElem?_cons_zero, List.getElem?_cons_succ, Option.map_some]
                    repeat (first | ((with_reducible refine wpD_p (fun K hK => ?_)); go_simp; refine hK _ ?_; clear hK K) | ((with_reducible refine wpD_q (fun K hK => ?_)); go_simp; (first | refine hK _ ?_ | (go_bits; refine hK _ ?_) | (go_bits; go_simp; refine hK _ ?_)); clear hK K))
                    with_reducible refine wpD_nil ?_
                    go_wp2
                    go_roundg (2 - (j + 1))
                    case measure => omega
                    case rel => exact ⟨j + 1, sj, A1, c1, by omega, by go_num, Lib.hid (show glue1 ps par solid v (1 - j) (glueJ ps par solid v st j) = sj by rw [hdH.out, glue1_none hnb.out]; exact hsj.out), Lib.hid (hO4.out.below (bl_dr (bl_refl _))), Lib.hid (ownsRow_below hG4.out (bl_dr (bl_refl _))), Lib.hid (bS4.out.below (bl_dr (bl_refl _))), Lib.hid (bP4.out.below (bl_dr (bl_refl _))), Lib.hid (bD4.out.below (bl_dr (bl_refl _))), Lib.hid (bw4.out.trans ((bl_dr (bl_refl _)).mono bw4.out.size)), hgb, by simp; omega⟩
                  | some kq =>
                    obtain rfl : fb = true := hmem.trans (idxP_mem hix)
                    have hkp := idxP_some hix
                    obtain rfl : rI = kq := by
                      have h1 := hSH.out.idx (hstopH.out.yes rfl)
                      simp only at h1
                      rw [hix] at h1
                      injection h1 with h1
                      exact h1.symm
                    have hnb : nbP ps v d = some rI := by unfold nbP; rw [hpH.out]; simp only; rw [hsxH.out, hsyH.out]; exact hix
                    have hbk : nbP ps rI (oppN d) = some v := by
                      have h1 := nbP_back hSH.out hpH.out hd4 (by simp only; rw [hsxH.out, hsyH.out]; exact hix)
                      rw [show oppN d = (d + 2) % 4 by unfold oppN; split <;> omega]; exact h1
                    have hrk : rI < k := by rw [← hl.out]; exact (List.getElem?_eq_some_iff.1 hkp).1
                    obtain ⟨gi, ei, fi, di, si, hTi, _, _, hdi, _, hti, hfi⟩ := hTrH.out.on v (hall.out v (by rw [hl.out]; exact hvn))
                    obtain ⟨gk, ek, fk, dk, sk, hTk, _, _, hdk, _, htk, hfk⟩ := hTrH.out.on rI (hall.out rI (by rw [hl.out]; exact hrk))
                    have if1 := trip_from hTrH.out hd4 hnb hTk hdi hfi
                    have if2 := trip_from hTrH.out (show oppN d < 4 by unfold oppN; split <;> omega) hbk hTi hdk hfk
                    have hpw : (wayS (nbP ps) (way0 ps.length rn) ps.length).2.1 = par := hparH.out
                    rw [hpw] at if1 if2
                    have lk1 := Lib.hid ((tripM_at (T := T) (hSH.out.idx hpH.out)).trans hTi)
                    have lk2 := Lib.hid ((tripM_at (T := T) hix).trans hTk)
                    simp only at lk1
                    have t1 := (bw4.out.cell (p := ⟨gi, 2, none⟩) hti.lt).trans hti.c2
                    have t2 := (bw4.out.cell (p := ⟨gk, 2, none⟩) htk.lt).trans htk.c2
                    have l1 : gi < w4.heap.size := Nat.lt_of_lt_of_le hti.lt bw4.out.size
                    have l2 : gk < w4.heap.size := Nat.lt_of_lt_of_le htk.lt bw4.out.size
                    unfold ptrV at t1 t2
                    rw [← mapA_iff] at if1 if2
                    obtain ⟨po, hpo⟩ : ∃ po, (fi.map fun g => (⟨g, 0, none⟩ : Addr)) = po := ⟨_, rfl⟩
                    obtain ⟨pk, hpk⟩ : ∃ po, (fk.map fun g => (⟨g, 0, none⟩ : Addr)) = po := ⟨_, rfl⟩
                    have hbq : ∀ p : BelowBy w4.drew, Below w2.heap.size w2 p.world := fun p => bw4.out.trans (((bl_dr (bl_refl _)).trans (p.h.mono (by simp))).mono bw4.out.size)
                    have he1 := fun p : BelowBy w4.drew => trip_eq hTrH.out (hbq p) (hall.out rI (by rw [hl.out]; exact hrk)) hTk hfi hpo
                    have he2 := fun p : BelowBy w4.drew => trip_eq hTrH.out (hbq p) (hall.out v (by rw [hl.out]; exact hvn)) hTi hfk hpk
                    rw [hpo] at t1 if1
                    rw [hpk] at t2 if2
                    have x0 := bP4.out.cell 0 _ rfl
                    have x1 := bP4.out.cell 1 _ rfl
                    have y0 := bQ4.out.cell 0 _ rfl
                    have y1 := bQ4.out.cell 1 _ rfl
                    have lx := bP4.out.lt
                    have ly := bQ4.out.lt
                    have hM4 := Lib.hid (hMH.out.below (bw4.out.trans ((bl_dr (bl_refl _)).mono bw4.out.size)))
                    have hnbH := Lib.hid hnb
                    clear hbq hpo hpk hTi hTk hdi hdk hti htk hfi hfk hbk hmem hix hkp hnb hpw
                    by_cases hp1' : par[v]? = some (d : Int)
                    · have hS2 := Lib.hid (show strS par solid v d rI = 2 by unfold strS; rw [if_pos (.inl hp1')])
                      obtain rfl := if1.2 hp1'
                      simp only [decide_true] at he1
                      clear if1 if2 hp1' he2
                      go_wp2_with fail
                      refine wp_region_ord [(0, .q), (1, .q), (2, .q), (3, .q), (4, .q), (5, .q), (6, .q), (7, .q), (8, .q), (9, .q), (10, .q), (11, .q), (12, .q), (13, .q), (14, .q), (15, .q), (16, .q), (17, .q), (18, .q), (19, .q), (20, .q), (21, .q), (22, .q), (23, .q), (24, .q)] (by kernel_rfl) (by kernel_rfl) ?_
                      simp only [pick, List.filterMap_cons, List.filterMap_nil, List.getElem?_toArray, List.getElem?_cons_zero, List.getElem?_cons_succ, Option.map_some]
                      repeat (first | ((with_reducible refine wpD_p (fun K hK => ?_)); go_simp; refine hK _ ?_; clear hK K) | ((with_reducible refine wpD_q (fun K hK => ?_)); go_simp; (first | refine hK _ ?_ | (go_bits; refine hK _ ?_) | (go_bits; go_simp; refine hK _ ?_)); clear hK K))
                      refine wpD_look (by go_simp) _ _ rfl bt mt _ rfl hM4.out px py (W64.of (by omega)) (W64.of (by omega)) rfl gi lk1.out ?_
                      repeat (first | ((with_reducible refine wpD_p (fun K hK => ?_)); go_simp; refine hK _ ?_; clear hK K) | ((with_reducible refine wpD_q (fun K hK => ?_)); go_simp; (first | refine hK _ ?_ | (go_bits; refine hK _ ?_) | (go_bits; go_simp; refine hK _ ?_)); clear hK K))
                      refine wpD_look (by go_simp) _ _ rfl bt mt _ rfl hM4.out sx sy (W64.of (by omega)) (W64.of (by omega)) rfl gk lk2.out ?_
                      repeat (first
                        | ((with_reducible refine wpD_p (fun K hK => ?_)); go_simp; refine hK _ ?_; clear hK K)
                        | ((with_reducible refine wpD_q (fun K hK => ?_)); go_simp; (first | refine hK _ ?_ | (go_bits; refine hK _ ?_) | (go_bits; go_simp; refine hK _ ?_)); clear hK K)
                        | ((with_reducible refine wpD_g (fun K hK => ?_)); go_simp; refine hK _ _ ?_; clear hK K)
                        | ((with_reducible refine wpD_g (fun K hK => ?_)); go_simp; refine ⟨Grew.of_alloc _, hK _ _ ?_⟩; clear hK K))
                      with_reducible refine wpD_nil ?_
                      clear lk1 lk2 t1 t2 l1 l2 x0 x1 y0 y1 lx ly
                      have hdr : Below w4.heap.size w4 w4.drew := bl_dr (bl_refl _)
                      replace hO4 := Lib.hid (hO4.out.below hdr)
                      replace hG4 := Lib.hid (ownsRow_below hG4.out hdr)
                      replace bS4 := Lib.hid (bS4.out.below hdr)
                      replace bP4 := Lib.hid (bP4.out.below hdr)
                      replace bD4 := Lib.hid (bD4.out.below hdr)
                      replace bw4 := Lib.hid (bw4.out.trans (hdr.mono bw4.out.size))
                      replace hs4 := Nat.le_trans hs4 hdr.size
                      obtain ⟨wd, hwd⟩ : ∃ wd, wd = w4.drew := ⟨_, rfl⟩
                      rw [← hwd] at hO4 hG4 bS4 bP4 bD4 bw4 hs4 ⊢
                      clear hdr hwd hM4 bQ4 hstopH he1
                      go_wp2_with fail
                      have hTab4 := Lib.hid (hTab2.out.below bw4.out)
                      obtain ⟨nm, hnm⟩ : ∃ nm, pairN ⟨#[103]⟩ v rI = nm := ⟨_, rfl⟩
                      obtain ⟨ng, hng⟩ : ∃ ng, sj.1.length = ng := ⟨_, rfl⟩
                      have hGI : GInvS k (0 + 2 * v + j) sj := by
                        rw [← hsj.out, ← hst.out]
                        exact (((GInvS.start k).I ps par _ v).J ps par _ v j)
                      have hng2 : ng ≤ 320 := by
                        rw [← hng]
                        have h1 := hGI.gl
                        omega
                      have hngH := Lib.hid hng
                      have hGx := hG4.out
                      have bSx := bS4.out
                      have hgbx := hgb.out
                      rw [hng] at hGx bSx hgbx
                      have hgb5 := Lib.hid hgbx
                      have hG5 := Lib.hid hGx
                      have bS5 := Lib.hid bSx
                      have y0 := bS5.out.cell 0 _ rfl
                      have f0 := bS5.out.froz 0
                      have lS := bS5.out.lt
                      have hs4H := Lib.hid hs4
                      clear hGx bSx hG4 bS4 hng hgbx hgb
                      refine wp_region_ord [(0, .q), (1, .q), (2, .q), (3, .q), (5, .q), (4, .g), (6, .q), (7, .g), (8, .b), (9, .q), (10, .b)] (by kernel_rfl) (by kernel_rfl) ?_
                      simp only [pick, List.filterMap_cons, List.filterMap_nil, List.getElem?_toArray, List.getElem?_cons_zero, List.getElem?_cons_succ, Option.map_some]
                      repeat (first | ((with_reducible refine wpD_p (fun K hK => ?_)); go_simp; refine hK _ ?_; clear hK K) | ((with_reducible refine wpD_q (fun K hK => ?_)); go_simp; (first | refine hK _ ?_ | (go_bits; refine hK _ ?_) | (go_bits; go_simp; refine hK _ ?_)); clear hK K))
                      with_reducible refine wpD_g (fun K hK => ?_)
                      go_simp
                      refine (paired_n (a := v) (b := rI) _ (by decide) (by omega) (by omega) (hTab4.out.below (bl_dr (bl_refl _))) hnm).mono ?_
                      rintro e w5 ⟨rfl, hb5⟩
                      refine ⟨_, rfl, hb5, hK _ _ ?_⟩
                      clear hK K
                      have j5 : Below wd.heap.size wd w5 := (bl_dr (bl_refl wd)).trans (hb5.mono (by simp))
                      repeat (first | ((with_reducible refine wpD_p (fun K hK => ?_)); go_simp; refine hK _ ?_; clear hK K) | ((with_reducible refine wpD_q (fun K hK => ?_)); go_simp; (first | refine hK _ ?_ | (go_bits; refine hK _ ?_) | (go_bits; go_simp; refine hK _ ?_)); clear hK K))
                      with_reducible refine wpD_g (fun K hK => ?_)
                      go_simp
                      refine ⟨Grew.of_alloc _, hK _ _ ?_⟩
                      clear hK K
                      have hA5 : Below w5.heap.size w5 (w5.alloc (Obj.cells #[Value.string nm, Value.int .i64 2] 69)) := bl_al (bl_refl _) _
                      have j6 : Below wd.heap.size wd (w5.alloc (Obj.cells #[Value.string nm, Value.int .i64 2] 69)) := j5.trans (hA5.mono j5.size)
                      have hs5 := j5.size
                      have hG6 := Lib.hid (ownsRow_below hG5.out j6)
                      refine wpD_append_atN rfl _ _ 24 rfl (B + 1) 69 iG (.agg #[.string ByteArray.empty, .int .i64 0]) 2 24 Tryz.underlying24 hiG hG0 hG1 hG2 rfl (by decide) (.slice A1 ng c1) ng (flatC encGl sj.1) (by go_simp) hG6.out ⟨w5.heap.size, 0, none⟩ 1 1 [.string nm, .int .i64 2] (by go_simp) rfl (cell_two_newN _ _ _ _) (fun x hx => by simp at hx; rcases hx with rfl | rfl <;> rfl) (by unfold maxLen; omega) (by omega) (by simp; omega) ?_
                      intro v7 w7 hown7 hgrow7 hat7
                      obtain ⟨A7, c7, rfl⟩ := ownsRow_form hown7
                      have j7 := (hO4.out.below j6)
                      have hO7 := Lib.hid (j7.keptG hG6.out (by decide) (by decide) hgrow7)
                      have bS7 := Lib.hid ((bS5.out.below j6).grown hgrow7 (fun e => by have := (hG6.out.lt _ e).1; omega))
                      have hb1B : B + 1 ≤ b1 := hBb
                      have bP7 := Lib.hid ((bP4.out.below j6).grown hgrow7 (fun e => (hgb5.out _ e).1 rfl))
                      have bD7 := Lib.hid ((bD4.out.below j6).grown hgrow7 (fun e => (hgb5.out _ e).2 rfl))
                      have bw7 := Lib.hid ((bw4.out.trans (j6.mono bw4.out.size)).grown hgrow7 (by have := bw4.out.size; simp; omega) (fun g e => by have := (hG6.out.lt g e).1; omega))
                      have hG7 := Lib.hid (show w7.ownsRow (B + 1) 69 2 (.slice A7 (ng + 1) c7) (ng + 1) (flatC encGl (sj.1 ++ [⟨nm, 2⟩])) by rw [flatC_snoc]; exact hown7)
                      have hs7 := bw7.out.size
                      have hsw7 : b1 + 2 ≤ w7.heap.size := by have h1 := hgrow7.size; have h2 := j6.size; omega
                      have hgb7 := Lib.hid (fun (q : Nat) (e : (Value.slice A7 (ng + 1) c7).ownBlock = some q) => show q ≠ b1 ∧ q ≠ b1 + 1 from by
                        rcases hat7 with h | h
                        · exact hgb5.out q (h ▸ e)
                        · rw [h] at e
                          injection e with e
                          have := j6.size
                          omega)
                      have z0 := bS7.out.cell 0 _ rfl
                      have zf := bS7.out.froz 0
                      have zl := bS7.out.lt
                      clear hown7 hgrow7 hat7 j7 hO4 bS5 bP4 bD4 bw4 hG6 hA5 j6 j5 hs5 hb5 hG5 y0 f0 lS hTab4
                      repeat (first | ((with_reducible refine wpD_p (fun K hK => ?_)); go_simp; refine hK _ ?_; clear hK K) | ((with_reducible refine wpD_q (fun K hK => ?_)); go_simp; (first | refine hK _ ?_ | (go_bits; refine hK _ ?_) | (go_bits; go_simp; refine hK _ ?_)); clear hK K))
                      with_reducible refine wpD_b (fun K hK => ?_)
                      go_simp
                      refine hK _ _ ?_
                      clear hK K
                      with_reducible refine wpD_nil ?_
                      have hO8 := Lib.hid (hO7.out.setBelow (p := ⟨B, 0, none⟩) (Nat.lt_succ_self _) (.slice A7 (ng + 1) c7))
                      have bS8 := Lib.hid (bS7.out.setSame 0 (.slice A7 (ng + 1) c7))
                      have bP8 := Lib.hid (bP7.out.setOther (a := ⟨B, 0, none⟩) (by simp; omega) (.slice A7 (ng + 1) c7))
                      have bD8 := Lib.hid (bD7.out.setOther (a := ⟨B, 0, none⟩) (by simp; omega) (.slice A7 (ng + 1) c7))
                      have hG8 := Lib.hid (ownsRow_setB hG7.out (p := ⟨B, 0, none⟩) (Nat.lt_succ_self _) (.slice A7 (ng + 1) c7))
                      have bw8 := Lib.hid (bw7.out.setCell (p := ⟨B, 0, none⟩) hBl (.slice A7 (ng + 1) c7))
                      obtain ⟨w8, hw8⟩ : ∃ w8, w8 = w7.setCell ⟨B, 0, none⟩ (.slice A7 (ng + 1) c7) := ⟨_, rfl⟩
                      have hsw8 : b1 + 2 ≤ w8.heap.size := by rw [hw8]; simpa using hsw7
                      rw [← hw8] at hO8 bS8 bP8 bD8 hG8 bw8 ⊢
                      clear hw8 hO7 bS7 bP7 bD7 hG7 bw7 z0 zf zl hs7 hsw7
                      -- regions 26, 27: the tile's own side
                      obtain ⟨tv, htv⟩ : ∃ t, sj.2[v]? = some t := ⟨_, List.getElem?_eq_getElem (by rw [hGI.len]; exact hvn)⟩
                      obtain ⟨bv, cv, huv, hbv1, hbv2, fv, hcv⟩ := hO8.out.sideAt hGI.four htv
                      obtain ⟨gT, cT, eT, hgT1, hgT2, hcT⟩ := hO8.out.outAt huv
                      have hus : us.length = k := hO8.out.len.trans hGI.len
                      rw [hus] at eT
                      clear hus
                      obtain ⟨eT1, eT3⟩ : B2 = some ⟨gT, 0, none⟩ ∧ c2 = cT := by
                        injection eT with e1 e2 e3
                        exact ⟨e1, e3⟩
                      clear eT
                      subst eT1 eT3
                      obtain ⟨xv, hxv⟩ := hcv d hd4
                      have fvd := fv d
                      have lT := hgT2
                      have y0 := bS8.out.cell 0 _ rfl
                      have y1 := bS8.out.cell 1 _ rfl
                      have lS := bS8.out.lt
                      have hbv3 := (hub.out v _ bv huv rfl).2
                      have huvH := Lib.hid huv
                      have htvH := Lib.hid htv
                      have hfvH := Lib.hid fv
                      have hcvH := Lib.hid hcv
                      clear huv htv fv hcv
                      have hd4I : (d : Int) < 4 := by omega
                      go_wp2_with fail
                      have hne7 : (Value.slice A7 (ng + 1) c7).ownBlock ≠ some bv := own_ne_own (hO8.out.inner v _ tv huvH.out htvH.out) hG8.out (by decide) rfl
                      have hO9 := Lib.hid (hO8.out.setSide (d := d) ((ng : Int) + 1) huvH.out htvH.out)
                      have hG9 := Lib.hid (kept_set hG8.out bv d (.int .i64 ((ng : Int) + 1)) hne7)
                      have bS9 := Lib.hid (bS8.out.setOther (a := ⟨bv, d, none⟩) (show bv ≠ B by omega) (.int .i64 ((ng : Int) + 1)))
                      have bP9 := Lib.hid (bP8.out.setOther (a := ⟨bv, d, none⟩) (show bv ≠ b1 by omega) (.int .i64 ((ng : Int) + 1)))
                      have bD9 := Lib.hid (bD8.out.setOther (a := ⟨bv, d, none⟩) (show bv ≠ b1 + 1 by omega) (.int .i64 ((ng : Int) + 1)))
                      have bw9 := Lib.hid (bw8.out.setCell (p := ⟨bv, d, none⟩) (show w2.heap.size ≤ bv by omega) (.int .i64 ((ng : Int) + 1)))
                      obtain ⟨w9, hw9⟩ : ∃ w9, w9 = w8.setCell ⟨bv, d, none⟩ (.int .i64 ((ng : Int) + 1)) := ⟨_, rfl⟩
                      have hsw9 : b1 + 2 ≤ w9.heap.size := by rw [hw9]; simpa using hsw8
                      rw [← hw9] at hO9 hG9 bS9 bP9 bD9 bw9 ⊢
                      clear hw9 hO8 hG8 bS8 bP8 bD8 bw8 hne7 y0 y1 lS lT hcT hxv fvd hbv1 hbv2 hbv3 hgT1 hgT2 huvH htvH hfvH hcvH
                      obtain ⟨tk, htk⟩ : ∃ t, (setSide sj.2 v d ((ng : Int) + 1))[rI]? = some t := ⟨_, List.getElem?_eq_getElem (by rw [setSide_len, hGI.len]; exact hrk)⟩
                      obtain ⟨bk, ck, huk, hbk1, hbk2, fk, hck⟩ := hO9.out.sideAt (hGI.four.set v d _) htk
                      obtain ⟨g2, cT2, eT, hgT1, hgT2, hcT⟩ := hO9.out.outAt huk
                      obtain rfl : gT = g2 := by injection eT with e1 _ _; injection e1 with e1; injection e1
                      have ho4 : oppN d < 4 := opp4 hd4
                      have ho4I : ((oppN d : Nat) : Int) < 4 := by omega
                      obtain ⟨xk, hxk⟩ := hck (oppN d) ho4
                      have fkd := fk (oppN d)
                      have lT := hgT2
                      have y1 := bS9.out.cell 1 _ rfl
                      have lS := bS9.out.lt
                      have hbk3 := (hub.out rI _ bk huk rfl).2
                      have hukH := Lib.hid huk
                      have htkH := Lib.hid htk
                      clear huk htk fk hck eT
                      refine wp_region_ord [(0, .q), (1, .q), (2, .q), (3, .q), (4, .q), (5, .q), (6, .q), (8, .q), (7, .g), (9, .q), (10, .b)] (by kernel_rfl) (by kernel_rfl) ?_
                      simp only [pick, List.filterMap_cons, List.filterMap_nil, List.getElem?_toArray, List.getElem?_cons_zero, List.getElem?_cons_succ, Option.map_some]
                      repeat (first
                        | ((with_reducible refine wpD_p (fun K hK => ?_)); go_simp; refine hK _ ?_; clear hK K)
                        | ((with_reducible refine wpD_q (fun K hK => ?_)); go_simp; (first | refine hK _ ?_ | (go_bits; refine hK _ ?_) | (go_bits; go_simp; refine hK _ ?_)); clear hK K)
                        | ((with_reducible refine wpD_g (fun K hK => ?_)); go_simp; refine hK _ _ ?_; clear hK K)
                        | ((with_reducible refine wpD_g (fun K hK => ?_)); go_simp; refine ⟨Grew.of_alloc _, hK _ _ ?_⟩; clear hK K)
                        | ((with_reducible refine wpD_g (fun K hK => ?_)); go_simp; go_at_call 35; refine (opposite_any _ _ hd4).mono ?_; rintro e _ ⟨rfl, rfl⟩; refine ⟨_, rfl, Below.refl _ _, hK _ _ ?_⟩; clear hK K))
                      with_reducible refine wpD_b (fun K hK => ?_)
                      go_simp
                      refine hK _ _ ?_
                      clear hK K
                      with_reducible refine wpD_nil ?_
                      have hdr : Below (w9.setCell ⟨bk, oppN d, none⟩ (.int .i64 ((ng : Int) + 1))).heap.size (w9.setCell ⟨bk, oppN d, none⟩ (.int .i64 ((ng : Int) + 1))) (w9.setCell ⟨bk, oppN d, none⟩ (.int .i64 ((ng : Int) + 1))).drew := bl_dr (bl_refl _)
                      have hne9 : (Value.slice A7 (ng + 1) c7).ownBlock ≠ some bk := own_ne_own (hO9.out.inner rI _ tk hukH.out htkH.out) hG9.out (by decide) rfl
                      have hO10 := Lib.hid ((hO9.out.setSide (d := oppN d) ((ng : Int) + 1) hukH.out htkH.out).below hdr)
                      have hG10 := Lib.hid (ownsRow_below (kept_set hG9.out bk (oppN d) (.int .i64 ((ng : Int) + 1)) hne9) hdr)
                      have bS10 := Lib.hid ((bS9.out.setOther (a := ⟨bk, oppN d, none⟩) (show bk ≠ B by omega) (.int .i64 ((ng : Int) + 1))).below hdr)
                      have bP10 := Lib.hid ((bP9.out.setOther (a := ⟨bk, oppN d, none⟩) (show bk ≠ b1 by omega) (.int .i64 ((ng : Int) + 1))).below hdr)
                      have bD10 := Lib.hid ((bD9.out.setOther (a := ⟨bk, oppN d, none⟩) (show bk ≠ b1 + 1 by omega) (.int .i64 ((ng : Int) + 1))).below hdr)
                      have bw10 := bw9.out.setCell (p := ⟨bk, oppN d, none⟩) (show w2.heap.size ≤ bk by omega) (.int .i64 ((ng : Int) + 1))
                      replace bw10 := Lib.hid (bw10.trans (hdr.mono bw10.size))
                      have hl10 : (sj.1 ++ [(⟨nm, 2⟩ : Gl)]).length = ng + 1 := by rw [List.length_append, hngH.out]; rfl
                      have hx10 : ((ng + 1 : Nat) : Int) = (ng : Int) + 1 := by omega
                      have hsj10 := Lib.hid (show glue1 ps par _ v (1 - j) (glueJ ps par _ v st j) = (sj.1 ++ [(⟨nm, 2⟩ : Gl)], setSide (setSide sj.2 v d ((ng : Int) + 1)) rI (oppN d) ((ng : Int) + 1)) by rw [hdH.out, hsj.out, glue1_some hnbH.out hS2.out (by decide), hngH.out, hnm, hx10])
                      have hlH := Lib.hid hl10
                      clear hl10 hx10 hO9 hG9 bS9 bP9 bD9 bw9 hne9 y1 lS lT hcT hxk fkd hdr
                      go_wp2
                      go_roundg (2 - (j + 1))
                      case measure => omega
                      case rel => exact ⟨j + 1, _, A7, c7, by omega, by go_num, hsj10, hO10, Lib.hid (by rw [hlH.out]; exact hG10.out), Lib.hid (by rw [hlH.out]; exact bS10.out), bP10, bD10, bw10, Lib.hid (by rw [hlH.out]; exact hgb7.out), by simp; omega⟩
                    · have e1 : decide (po = some ⟨gk, 0, none⟩) = false := decide_eq_false (fun e => hp1' (if1.1 e))
                      simp only [e1] at he1
                      by_cases hp2' : par[rI]? = some (oppN d : Int)
                      · have hS2 := Lib.hid (show strS par solid v d rI = 2 by unfold strS; rw [if_pos (.inr hp2')])
                        obtain rfl := if2.2 hp2'
                        simp only [decide_true] at he2
                        clear if1 if2 hp1' hp2' e1
                        go_wp2_with fail
                        refine wp_region_ord [(0, .q), (1, .q), (2, .q), (3, .q), (4, .q), (5, .q), (6, .q), (7, .q), (8, .q), (9, .q), (10, .q), (11, .q), (12, .q), (13, .q), (14, .q), (15, .q), (16, .q), (17, .q), (18, .q), (19, .q), (20, .q), (21, .q), (22, .q), (23, .q), (24, .q)] (by kernel_rfl) (by kernel_rfl) ?_
                        simp only [pick, List.filterMap_cons, List.filterMap_nil, List.getElem?_toArray, List.getElem?_cons_zero, List.getElem?_cons_succ, Option.map_some]
                        repeat (first | ((with_reducible refine wpD_p (fun K hK => ?_)); go_simp; refine hK _ ?_; clear hK K) | ((with_reducible refine wpD_q (fun K hK => ?_)); go_simp; (first | refine hK _ ?_ | (go_bits; refine hK _ ?_) | (go_bits; go_simp; refine hK _ ?_)); clear hK K))
                        refine wpD_look (by go_simp) _ _ rfl bt mt _ rfl hM4.out px py (W64.of (by omega)) (W64.of (by omega)) rfl gi lk1.out ?_
                        repeat (first | ((with_reducible refine wpD_p (fun K hK => ?_)); go_simp; refine hK _ ?_; clear hK K) | ((with_reducible refine wpD_q (fun K hK => ?_)); go_simp; (first | refine hK _ ?_ | (go_bits; refine hK _ ?_) | (go_bits; go_simp; refine hK _ ?_)); clear hK K))
                        refine wpD_look (by go_simp) _ _ rfl bt mt _ rfl hM4.out sx sy (W64.of (by omega)) (W64.of (by omega)) rfl gk lk2.out ?_
                        repeat (first | ((with_reducible refine wpD_p (fun K hK => ?_)); go_simp; refine hK _ ?_; clear hK K) | ((with_reducible refine wpD_q (fun K hK => ?_)); go_simp; (first | refine hK _ ?_ | (go_bits; refine hK _ ?_) | (go_bits; go_simp; refine hK _ ?_)); clear hK K))
                        refine wpD_look (by go_simp) _ _ rfl bt mt _ rfl hM4.out sx sy (W64.of (by omega)) (W64.of (by omega)) rfl gk lk2.out ?_
                        repeat (first | ((with_reducible refine wpD_p (fun K hK => ?_)); go_simp; refine hK _ ?_; clear hK K) | ((with_reducible refine wpD_q (fun K hK => ?_)); go_simp; (first | refine hK _ ?_ | (go_bits; refine hK _ ?_) | (go_bits; go_simp; refine hK _ ?_)); clear hK K))
                        refine wpD_look (by go_simp) _ _ rfl bt mt _ rfl hM4.out px py (W64.of (by omega)) (W64.of (by omega)) rfl gi lk1.out ?_
                        repeat (first
                          | ((with_reducible refine wpD_p (fun K hK => ?_)); go_simp; refine hK _ ?_; clear hK K)
                          | ((with_reducible refine wpD_q (fun K hK => ?_)); go_simp; (first | refine hK _ ?_ | (go_bits; refine hK _ ?_) | (go_bits; go_simp; refine hK _ ?_)); clear hK K)
                          | ((with_reducible refine wpD_g (fun K hK => ?_)); go_simp; refine hK _ _ ?_; clear hK K)
                          | ((with_reducible refine wpD_g (fun K hK => ?_)); go_simp; refine ⟨Grew.of_alloc _, hK _ _ ?_⟩; clear hK K))
                        with_reducible refine wpD_nil ?_
                        clear lk1 lk2 t1 t2 l1 l2 x0 x1 y0 y1 lx ly
                        have hdr : Below w4.heap.size w4 w4.drew := bl_dr (bl_refl _)
                        replace hO4 := Lib.hid (hO4.out.below hdr)
                        replace hG4 := Lib.hid (ownsRow_below hG4.out hdr)
                        replace bS4 := Lib.hid (bS4.out.below hdr)
                        replace bP4 := Lib.hid (bP4.out.below hdr)
                        replace bD4 := Lib.hid (bD4.out.below hdr)
                        replace bw4 := Lib.hid (bw4.out.trans (hdr.mono bw4.out.size))
                        replace hs4 := Nat.le_trans hs4 hdr.size
                        obtain ⟨wd, hwd⟩ : ∃ wd, wd = w4.drew := ⟨_, rfl⟩
                        rw [← hwd] at hO4 hG4 bS4 bP4 bD4 bw4 hs4 ⊢
                        clear hdr hwd hM4 bQ4 hstopH he1
                        go_wp2_with fail
                        have hTab4 := Lib.hid (hTab2.out.below bw4.out)
                        obtain ⟨nm, hnm⟩ : ∃ nm, pairN ⟨#[103]⟩ v rI = nm := ⟨_, rfl⟩
                        obtain ⟨ng, hng⟩ : ∃ ng, sj.1.length = ng := ⟨_, rfl⟩
                        have hGI : GInvS k (0 + 2 * v + j) sj := by
                          rw [← hsj.out, ← hst.out]
                          exact (((GInvS.start k).I ps par _ v).J ps par _ v j)
                        have hng2 : ng ≤ 320 := by
                          rw [← hng]
                          have h1 := hGI.gl
                          omega
                        have hngH := Lib.hid hng
                        have hGx := hG4.out
                        have bSx := bS4.out
                        have hgbx := hgb.out
                        rw [hng] at hGx bSx hgbx
                        have hgb5 := Lib.hid hgbx
                        have hG5 := Lib.hid hGx
                        have bS5 := Lib.hid bSx
                        have y0 := bS5.out.cell 0 _ rfl
                        have f0 := bS5.out.froz 0
                        have lS := bS5.out.lt
                        have hs4H := Lib.hid hs4
                        clear hGx bSx hG4 bS4 hng hgbx hgb
                        refine wp_region_ord [(0, .q), (1, .q), (2, .q), (3, .q), (5, .q), (4, .g), (6, .q), (7, .g), (8, .b), (9, .q), (10, .b)] (by kernel_rfl) (by kernel_rfl) ?_
                        simp only [pick, List.filterMap_cons, List.filterMap_nil, List.getElem?_toArray, List.getElem?_cons_zero, List.getElem?_cons_succ, Option.map_some]
                        repeat (first | ((with_reducible refine wpD_p (fun K hK => ?_)); go_simp; refine hK _ ?_; clear hK K) | ((with_reducible refine wpD_q (fun K hK => ?_)); go_simp; (first | refine hK _ ?_ | (go_bits; refine hK _ ?_) | (go_bits; go_simp; refine hK _ ?_)); clear hK K))
                        with_reducible refine wpD_g (fun K hK => ?_)
                        go_simp
                        refine (paired_n (a := v) (b := rI) _ (by decide) (by omega) (by omega) (hTab4.out.below (bl_dr (bl_refl _))) hnm).mono ?_
                        rintro e w5 ⟨rfl, hb5⟩
                        refine ⟨_, rfl, hb5, hK _ _ ?_⟩
                        clear hK K
                        have j5 : Below wd.heap.size wd w5 := (bl_dr (bl_refl wd)).trans (hb5.mono (by simp))
                        repeat (first | ((with_reducible refine wpD_p (fun K hK => ?_)); go_simp; refine hK _ ?_; clear hK K) | ((with_reducible refine wpD_q (fun K hK => ?_)); go_simp; (first | refine hK _ ?_ | (go_bits; refine hK _ ?_) | (go_bits; go_simp; refine hK _ ?_)); clear hK K))
                        with_reducible refine wpD_g (fun K hK => ?_)
                        go_simp
                        refine ⟨Grew.of_alloc _, hK _ _ ?_⟩
                        clear hK K
                        have hA5 : Below w5.heap.size w5 (w5.alloc (Obj.cells #[Value.string nm, Value.int .i64 2] 69)) := bl_al (bl_refl _) _
                        have j6 : Below wd.heap.size wd (w5.alloc (Obj.cells #[Value.string nm, Value.int .i64 2] 69)) := j5.trans (hA5.mono j5.size)
                        have hs5 := j5.size
                        have hG6 := Lib.hid (ownsRow_below hG5.out j6)
                        refine wpD_append_atN rfl _ _ 24 rfl (B + 1) 69 iG (.agg #[.string ByteArray.empty, .int .i64 0]) 2 24 Tryz.underlying24 hiG hG0 hG1 hG2 rfl (by decide) (.slice A1 ng c1) ng (flatC encGl sj.1) (by go_simp) hG6.out ⟨w5.heap.size, 0, none⟩ 1 1 [.string nm, .int .i64 2] (by go_simp) rfl (cell_two_newN _ _ _ _) (fun x hx => by simp at hx; rcases hx with rfl | rfl <;> rfl) (by unfold maxLen; omega) (by omega) (by simp; omega) ?_
                        intro v7 w7 hown7 hgrow7 hat7
                        obtain ⟨A7, c7, rfl⟩ := ownsRow_form hown7
                        have j7 := (hO4.out.below j6)
                        have hO7 := Lib.hid (j7.keptG hG6.out (by decide) (by decide) hgrow7)
                        have bS7 := Lib.hid ((bS5.out.below j6).grown hgrow7 (fun e => by have := (hG6.out.lt _ e).1; omega))
                        have hb1B : B + 1 ≤ b1 := hBb
                        have bP7 := Lib.hid ((bP4.out.below j6).grown hgrow7 (fun e => (hgb5.out _ e).1 rfl))
                        have bD7 := Lib.hid ((bD4.out.below j6).grown hgrow7 (fun e => (hgb5.out _ e).2 rfl))
                        have bw7 := Lib.hid ((bw4.out.trans (j6.mono bw4.out.size)).grown hgrow7 (by have := bw4.out.size; simp; omega) (fun g e => by have := (hG6.out.lt g e).1; omega))
                        have hG7 := Lib.hid (show w7.ownsRow (B + 1) 69 2 (.slice A7 (ng + 1) c7) (ng + 1) (flatC encGl (sj.1 ++ [⟨nm, 2⟩])) by rw [flatC_snoc]; exact hown7)
                        have hs7 := bw7.out.size
                        have hsw7 : b1 + 2 ≤ w7.heap.size := by have h1 := hgrow7.size; have h2 := j6.size; omega
                        have hgb7 := Lib.hid (fun (q : Nat) (e : (Value.slice A7 (ng + 1) c7).ownBlock = some q) => show q ≠ b1 ∧ q ≠ b1 + 1 from by
                          rcases hat7 with h | h
                          · exact hgb5.out q (h ▸ e)
                          · rw [h] at e
                            injection e with e
                            have := j6.size
                            omega)
                        have z0 := bS7.out.cell 0 _ rfl
                        have zf := bS7.out.froz 0
                        have zl := bS7.out.lt
                        clear hown7 hgrow7 hat7 j7 hO4 bS5 bP4 bD4 bw4 hG6 hA5 j6 j5 hs5 hb5 hG5 y0 f0 lS hTab4
                        repeat (first | ((with_reducible refine wpD_p (fun K hK => ?_)); go_simp; refine hK _ ?_; clear hK K) | ((with_reducible refine wpD_q (fun K hK => ?_)); go_simp; (first | refine hK _ ?_ | (go_bits; refine hK _ ?_) | (go_bits; go_simp; refine hK _ ?_)); clear hK K))
                        with_reducible refine wpD_b (fun K hK => ?_)
                        go_simp
                        refine hK _ _ ?_
                        clear hK K
                        with_reducible refine wpD_nil ?_
                        have hO8 := Lib.hid (hO7.out.setBelow (p := ⟨B, 0, none⟩) (Nat.lt_succ_self _) (.slice A7 (ng + 1) c7))
                        have bS8 := Lib.hid (bS7.out.setSame 0 (.slice A7 (ng + 1) c7))
                        have bP8 := Lib.hid (bP7.out.setOther (a := ⟨B, 0, none⟩) (by simp; omega) (.slice A7 (ng + 1) c7))
                        have bD8 := Lib.hid (bD7.out.setOther (a := ⟨B, 0, none⟩) (by simp; omega) (.slice A7 (ng + 1) c7))
                        have hG8 := Lib.hid (ownsRow_setB hG7.out (p := ⟨B, 0, none⟩) (Nat.lt_succ_self _) (.slice A7 (ng + 1) c7))
                        have bw8 := Lib.hid (bw7.out.setCell (p := ⟨B, 0, none⟩) hBl (.slice A7 (ng + 1) c7))
                        obtain ⟨w8, hw8⟩ : ∃ w8, w8 = w7.setCell ⟨B, 0, none⟩ (.slice A7 (ng + 1) c7) := ⟨_, rfl⟩
                        have hsw8 : b1 + 2 ≤ w8.heap.size := by rw [hw8]; simpa using hsw7
                        rw [← hw8] at hO8 bS8 bP8 bD8 hG8 bw8 ⊢
                        clear hw8 hO7 bS7 bP7 bD7 hG7 bw7 z0 zf zl hs7 hsw7
                        -- regions 26, 27: the tile's own side
                        obtain ⟨tv, htv⟩ : ∃ t, sj.2[v]? = some t := ⟨_, List.getElem?_eq_getElem (by rw [hGI.len]; exact hvn)⟩
                        obtain ⟨bv, cv, huv, hbv1, hbv2, fv, hcv⟩ := hO8.out.sideAt hGI.four htv
                        obtain ⟨gT, cT, eT, hgT1, hgT2, hcT⟩ := hO8.out.outAt huv
                        have hus : us.length = k := hO8.out.len.trans hGI.len
                        rw [hus] at eT
                        clear hus
                        obtain ⟨eT1, eT3⟩ : B2 = some ⟨gT, 0, none⟩ ∧ c2 = cT := by
                          injection eT with e1 e2 e3
                          exact ⟨e1, e3⟩
                        clear eT
                        subst eT1 eT3
                        obtain ⟨xv, hxv⟩ := hcv d hd4
                        have fvd := fv d
                        have lT := hgT2
                        have y0 := bS8.out.cell 0 _ rfl
                        have y1 := bS8.out.cell 1 _ rfl
                        have lS := bS8.out.lt
                        have hbv3 := (hub.out v _ bv huv rfl).2
                        have huvH := Lib.hid huv
                        have htvH := Lib.hid htv
                        have hfvH := Lib.hid fv
                        have hcvH := Lib.hid hcv
                        clear huv htv fv hcv
                        have hd4I : (d : Int) < 4 := by omega
                        go_wp2_with fail
                        have hne7 : (Value.slice A7 (ng + 1) c7).ownBlock ≠ some bv := own_ne_own (hO8.out.inner v _ tv huvH.out htvH.out) hG8.out (by decide) rfl
                        have hO9 := Lib.hid (hO8.out.setSide (d := d) ((ng : Int) + 1) huvH.out htvH.out)
                        have hG9 := Lib.hid (kept_set hG8.out bv d (.int .i64 ((ng : Int) + 1)) hne7)
                        have bS9 := Lib.hid (bS8.out.setOther (a := ⟨bv, d, none⟩) (show bv ≠ B by omega) (.int .i64 ((ng : Int) + 1)))
                        have bP9 := Lib.hid (bP8.out.setOther (a := ⟨bv, d, none⟩) (show bv ≠ b1 by omega) (.int .i64 ((ng : Int) + 1)))
                        have bD9 := Lib.hid (bD8.out.setOther (a := ⟨bv, d, none⟩) (show bv ≠ b1 + 1 by omega) (.int .i64 ((ng : Int) + 1)))
                        have bw9 := Lib.hid (bw8.out.setCell (p := ⟨bv, d, none⟩) (show w2.heap.size ≤ bv by omega) (.int .i64 ((ng : Int) + 1)))
                        obtain ⟨w9, hw9⟩ : ∃ w9, w9 = w8.setCell ⟨bv, d, none⟩ (.int .i64 ((ng : Int) + 1)) := ⟨_, rfl⟩
                        have hsw9 : b1 + 2 ≤ w9.heap.size := by rw [hw9]; simpa using hsw8
                        rw [← hw9] at hO9 hG9 bS9 bP9 bD9 bw9 ⊢
                        clear hw9 hO8 hG8 bS8 bP8 bD8 bw8 hne7 y0 y1 lS lT hcT hxv fvd hbv1 hbv2 hbv3 hgT1 hgT2 huvH htvH hfvH hcvH
                        obtain ⟨tk, htk⟩ : ∃ t, (setSide sj.2 v d ((ng : Int) + 1))[rI]? = some t := ⟨_, List.getElem?_eq_getElem (by rw [setSide_len, hGI.len]; exact hrk)⟩
                        obtain ⟨bk, ck, huk, hbk1, hbk2, fk, hck⟩ := hO9.out.sideAt (hGI.four.set v d _) htk
                        obtain ⟨g2, cT2, eT, hgT1, hgT2, hcT⟩ := hO9.out.outAt huk
                        obtain rfl : gT = g2 := by injection eT with e1 _ _; injection e1 with e1; injection e1
                        have ho4 : oppN d < 4 := opp4 hd4
                        have ho4I : ((oppN d : Nat) : Int) < 4 := by omega
                        obtain ⟨xk, hxk⟩ := hck (oppN d) ho4
                        have fkd := fk (oppN d)
                        have lT := hgT2
                        have y1 := bS9.out.cell 1 _ rfl
                        have lS := bS9.out.lt
                        have hbk3 := (hub.out rI _ bk huk rfl).2
                        have hukH := Lib.hid huk
                        have htkH := Lib.hid htk
                        clear huk htk fk hck eT
                        refine wp_region_ord [(0, .q), (1, .q), (2, .q), (3, .q), (4, .q), (5, .q), (6, .q), (8, .q), (7, .g), (9, .q), (10, .b)] (by kernel_rfl) (by kernel_rfl) ?_
                        simp only [pick, List.filterMap_cons, List.filterMap_nil, List.getElem?_toArray, List.getElem?_cons_zero, List.getElem?_cons_succ, Option.map_some]
                        repeat (first
                          | ((with_reducible refine wpD_p (fun K hK => ?_)); go_simp; refine hK _ ?_; clear hK K)
                          | ((with_reducible refine wpD_q (fun K hK => ?_)); go_simp; (first | refine hK _ ?_ | (go_bits; refine hK _ ?_) | (go_bits; go_simp; refine hK _ ?_)); clear hK K)
                          | ((with_reducible refine wpD_g (fun K hK => ?_)); go_simp; refine hK _ _ ?_; clear hK K)
                          | ((with_reducible refine wpD_g (fun K hK => ?_)); go_simp; refine ⟨Grew.of_alloc _, hK _ _ ?_⟩; clear hK K)
                          | ((with_reducible refine wpD_g (fun K hK => ?_)); go_simp; go_at_call 35; refine (opposite_any _ _ hd4).mono ?_; rintro e _ ⟨rfl, rfl⟩; refine ⟨_, rfl, Below.refl _ _, hK _ _ ?_⟩; clear hK K))
                        with_reducible refine wpD_b (fun K hK => ?_)
                        go_simp
                        refine hK _ _ ?_
                        clear hK K
                        with_reducible refine wpD_nil ?_
                        have hdr : Below (w9.setCell ⟨bk, oppN d, none⟩ (.int .i64 ((ng : Int) + 1))).heap.size (w9.setCell ⟨bk, oppN d, none⟩ (.int .i64 ((ng : Int) + 1))) (w9.setCell ⟨bk, oppN d, none⟩ (.int .i64 ((ng : Int) + 1))).drew := bl_dr (bl_refl _)
                        have hne9 : (Value.slice A7 (ng + 1) c7).ownBlock ≠ some bk := own_ne_own (hO9.out.inner rI _ tk hukH.out htkH.out) hG9.out (by decide) rfl
                        have hO10 := Lib.hid ((hO9.out.setSide (d := oppN d) ((ng : Int) + 1) hukH.out htkH.out).below hdr)
                        have hG10 := Lib.hid (ownsRow_below (kept_set hG9.out bk (oppN d) (.int .i64 ((ng : Int) + 1)) hne9) hdr)
                        have bS10 := Lib.hid ((bS9.out.setOther (a := ⟨bk, oppN d, none⟩) (show bk ≠ B by omega) (.int .i64 ((ng : Int) + 1))).below hdr)
                        have bP10 := Lib.hid ((bP9.out.setOther (a := ⟨bk, oppN d, none⟩) (show bk ≠ b1 by omega) (.int .i64 ((ng : Int) + 1))).below hdr)
                        have bD10 := Lib.hid ((bD9.out.setOther (a := ⟨bk, oppN d, none⟩) (show bk ≠ b1 + 1 by omega) (.int .i64 ((ng : Int) + 1))).below hdr)
                        have bw10 := bw9.out.setCell (p := ⟨bk, oppN d, none⟩) (show w2.heap.size ≤ bk by omega) (.int .i64 ((ng : Int) + 1))
                        replace bw10 := Lib.hid (bw10.trans (hdr.mono bw10.size))
                        have hl10 : (sj.1 ++ [(⟨nm, 2⟩ : Gl)]).length = ng + 1 := by rw [List.length_append, hngH.out]; rfl
                        have hx10 : ((ng + 1 : Nat) : Int) = (ng : Int) + 1 := by omega
                        have hsj10 := Lib.hid (show glue1 ps par _ v (1 - j) (glueJ ps par _ v st j) = (sj.1 ++ [(⟨nm, 2⟩ : Gl)], setSide (setSide sj.2 v d ((ng : Int) + 1)) rI (oppN d) ((ng : Int) + 1)) by rw [hdH.out, hsj.out, glue1_some hnbH.out hS2.out (by decide), hngH.out, hnm, hx10])
                        have hlH := Lib.hid hl10
                        clear hl10 hx10 hO9 hG9 bS9 bP9 bD9 bw9 hne9 y1 lS lT hcT hxk fkd hdr
                        go_wp2
                        go_roundg (2 - (j + 1))
                        case measure => omega
                        case rel => exact ⟨j + 1, _, A7, c7, by omega, by go_num, hsj10, hO10, Lib.hid (by rw [hlH.out]; exact hG10.out), Lib.hid (by rw [hlH.out]; exact bS10.out), bP10, bD10, bw10, Lib.hid (by rw [hlH.out]; exact hgb7.out), by simp; omega⟩
                      · have e2 : decide (pk = some ⟨gi, 0, none⟩) = false := decide_eq_false (fun e => hp2' (if2.1 e))
                        simp only [e2] at he2
                        cases solid with
                        | true =>
                          have hS2 := Lib.hid (show strS par true v d rI = 1 by unfold strS; rw [if_neg (by rintro (h | h); exact hp1' h; exact hp2' h)]; rfl)
                          clear if1 if2 hp1' hp2' e1 e2
                          go_wp2_with fail
                          refine wp_region_ord [(0, .q), (1, .q), (2, .q), (3, .q), (4, .q), (5, .q), (6, .q), (7, .q), (8, .q), (9, .q), (10, .q), (11, .q), (12, .q), (13, .q), (14, .q), (15, .q), (16, .q), (17, .q), (18, .q), (19, .q), (20, .q), (21, .q), (22, .q), (23, .q), (24, .q)] (by kernel_rfl) (by kernel_rfl) ?_
                          simp only [pick, List.filterMap_cons, List.filterMap_nil, List.getElem?_toArray, List.getElem?_cons_zero, List.getElem?_cons_succ, Option.map_some]
                          repeat (first | ((with_reducible refine wpD_p (fun K hK => ?_)); go_simp; refine hK _ ?_; clear hK K) | ((with_reducible refine wpD_q (fun K hK => ?_)); go_simp; (first | refine hK _ ?_ | (go_bits; refine hK _ ?_) | (go_bits; go_simp; refine hK _ ?_)); clear hK K))
                          refine wpD_look (by go_simp) _ _ rfl bt mt _ rfl hM4.out px py (W64.of (by omega)) (W64.of (by omega)) rfl gi lk1.out ?_
                          repeat (first | ((with_reducible refine wpD_p (fun K hK => ?_)); go_simp; refine hK _ ?_; clear hK K) | ((with_reducible refine wpD_q (fun K hK => ?_)); go_simp; (first | refine hK _ ?_ | (go_bits; refine hK _ ?_) | (go_bits; go_simp; refine hK _ ?_)); clear hK K))
                          refine wpD_look (by go_simp) _ _ rfl bt mt _ rfl hM4.out sx sy (W64.of (by omega)) (W64.of (by omega)) rfl gk lk2.out ?_
                          repeat (first | ((with_reducible refine wpD_p (fun K hK => ?_)); go_simp; refine hK _ ?_; clear hK K) | ((with_reducible refine wpD_q (fun K hK => ?_)); go_simp; (first | refine hK _ ?_ | (go_bits; refine hK _ ?_) | (go_bits; go_simp; refine hK _ ?_)); clear hK K))
                          refine wpD_look (by go_simp) _ _ rfl bt mt _ rfl hM4.out sx sy (W64.of (by omega)) (W64.of (by omega)) rfl gk lk2.out ?_
                          repeat (first | ((with_reducible refine wpD_p (fun K hK => ?_)); go_simp; refine hK _ ?_; clear hK K) | ((with_reducible refine wpD_q (fun K hK => ?_)); go_simp; (first | refine hK _ ?_ | (go_bits; refine hK _ ?_) | (go_bits; go_simp; refine hK _ ?_)); clear hK K))
                          refine wpD_look (by go_simp) _ _ rfl bt mt _ rfl hM4.out px py (W64.of (by omega)) (W64.of (by omega)) rfl gi lk1.out ?_
                          repeat (first
                            | ((with_reducible refine wpD_p (fun K hK => ?_)); go_simp; refine hK _ ?_; clear hK K)
                            | ((with_reducible refine wpD_q (fun K hK => ?_)); go_simp; (first | refine hK _ ?_ | (go_bits; refine hK _ ?_) | (go_bits; go_simp; refine hK _ ?_)); clear hK K)
                            | ((with_reducible refine wpD_g (fun K hK => ?_)); go_simp; refine hK _ _ ?_; clear hK K)
                            | ((with_reducible refine wpD_g (fun K hK => ?_)); go_simp; refine ⟨Grew.of_alloc _, hK _ _ ?_⟩; clear hK K))
                          with_reducible refine wpD_nil ?_
                          clear lk1 lk2 t1 t2 l1 l2 x0 x1 y0 y1 lx ly
                          have hdr : Below w4.heap.size w4 w4.drew := bl_dr (bl_refl _)
                          replace hO4 := Lib.hid (hO4.out.below hdr)
                          replace hG4 := Lib.hid (ownsRow_below hG4.out hdr)
                          replace bS4 := Lib.hid (bS4.out.below hdr)
                          replace bP4 := Lib.hid (bP4.out.below hdr)
                          replace bD4 := Lib.hid (bD4.out.below hdr)
                          replace bw4 := Lib.hid (bw4.out.trans (hdr.mono bw4.out.size))
                          replace hs4 := Nat.le_trans hs4 hdr.size
                          obtain ⟨wd, hwd⟩ : ∃ wd, wd = w4.drew := ⟨_, rfl⟩
                          rw [← hwd] at hO4 hG4 bS4 bP4 bD4 bw4 hs4 ⊢
                          clear hdr hwd hM4 bQ4 hstopH he1
                          go_wp2_with fail
                          have hTab4 := Lib.hid (hTab2.out.below bw4.out)
                          obtain ⟨nm, hnm⟩ : ∃ nm, pairN ⟨#[103]⟩ v rI = nm := ⟨_, rfl⟩
                          obtain ⟨ng, hng⟩ : ∃ ng, sj.1.length = ng := ⟨_, rfl⟩
                          have hGI : GInvS k (0 + 2 * v + j) sj := by
                            rw [← hsj.out, ← hst.out]
                            exact (((GInvS.start k).I ps par _ v).J ps par _ v j)
                          have hng2 : ng ≤ 320 := by
                            rw [← hng]
                            have h1 := hGI.gl
                            omega
                          have hngH := Lib.hid hng
                          have hGx := hG4.out
                          have bSx := bS4.out
                          have hgbx := hgb.out
                          rw [hng] at hGx bSx hgbx
                          have hgb5 := Lib.hid hgbx
                          have hG5 := Lib.hid hGx
                          have bS5 := Lib.hid bSx
                          have y0 := bS5.out.cell 0 _ rfl
                          have f0 := bS5.out.froz 0
                          have lS := bS5.out.lt
                          have hs4H := Lib.hid hs4
                          clear hGx bSx hG4 bS4 hng hgbx hgb
                          refine wp_region_ord [(0, .q), (1, .q), (2, .q), (3, .q), (5, .q), (4, .g), (6, .q), (7, .g), (8, .b), (9, .q), (10, .b)] (by kernel_rfl) (by kernel_rfl) ?_
                          simp only [pick, List.filterMap_cons, List.filterMap_nil, List.getElem?_toArray, List.getElem?_cons_zero, List.getElem?_cons_succ, Option.map_some]
                          repeat (first | ((with_reducible refine wpD_p (fun K hK => ?_)); go_simp; refine hK _ ?_; clear hK K) | ((with_reducible refine wpD_q (fun K hK => ?_)); go_simp; (first | refine hK _ ?_ | (go_bits; refine hK _ ?_) | (go_bits; go_simp; refine hK _ ?_)); clear hK K))
                          with_reducible refine wpD_g (fun K hK => ?_)
                          go_simp
                          refine (paired_n (a := v) (b := rI) _ (by decide) (by omega) (by omega) (hTab4.out.below (bl_dr (bl_refl _))) hnm).mono ?_
                          rintro e w5 ⟨rfl, hb5⟩
                          refine ⟨_, rfl, hb5, hK _ _ ?_⟩
                          clear hK K
                          have j5 : Below wd.heap.size wd w5 := (bl_dr (bl_refl wd)).trans (hb5.mono (by simp))
                          repeat (first | ((with_reducible refine wpD_p (fun K hK => ?_)); go_simp; refine hK _ ?_; clear hK K) | ((with_reducible refine wpD_q (fun K hK => ?_)); go_simp; (first | refine hK _ ?_ | (go_bits; refine hK _ ?_) | (go_bits; go_simp; refine hK _ ?_)); clear hK K))
                          with_reducible refine wpD_g (fun K hK => ?_)
                          go_simp
                          refine ⟨Grew.of_alloc _, hK _ _ ?_⟩
                          clear hK K
                          have hA5 : Below w5.heap.size w5 (w5.alloc (Obj.cells #[Value.string nm, Value.int .i64 1] 69)) := bl_al (bl_refl _) _
                          have j6 : Below wd.heap.size wd (w5.alloc (Obj.cells #[Value.string nm, Value.int .i64 1] 69)) := j5.trans (hA5.mono j5.size)
                          have hs5 := j5.size
                          have hG6 := Lib.hid (ownsRow_below hG5.out j6)
                          refine wpD_append_atN rfl _ _ 24 rfl (B + 1) 69 iG (.agg #[.string ByteArray.empty, .int .i64 0]) 2 24 Tryz.underlying24 hiG hG0 hG1 hG2 rfl (by decide) (.slice A1 ng c1) ng (flatC encGl sj.1) (by go_simp) hG6.out ⟨w5.heap.size, 0, none⟩ 1 1 [.string nm, .int .i64 1] (by go_simp) rfl (cell_two_newN _ _ _ _) (fun x hx => by simp at hx; rcases hx with rfl | rfl <;> rfl) (by unfold maxLen; omega) (by omega) (by simp; omega) ?_
                          intro v7 w7 hown7 hgrow7 hat7
                          obtain ⟨A7, c7, rfl⟩ := ownsRow_form hown7
                          have j7 := (hO4.out.below j6)
                          have hO7 := Lib.hid (j7.keptG hG6.out (by decide) (by decide) hgrow7)
                          have bS7 := Lib.hid ((bS5.out.below j6).grown hgrow7 (fun e => by have := (hG6.out.lt _ e).1; omega))
                          have hb1B : B + 1 ≤ b1 := hBb
                          have bP7 := Lib.hid ((bP4.out.below j6).grown hgrow7 (fun e => (hgb5.out _ e).1 rfl))
                          have bD7 := Lib.hid ((bD4.out.below j6).grown hgrow7 (fun e => (hgb5.out _ e).2 rfl))
                          have bw7 := Lib.hid ((bw4.out.trans (j6.mono bw4.out.size)).grown hgrow7 (by have := bw4.out.size; simp; omega) (fun g e => by have := (hG6.out.lt g e).1; omega))
                          have hG7 := Lib.hid (show w7.ownsRow (B + 1) 69 2 (.slice A7 (ng + 1) c7) (ng + 1) (flatC encGl (sj.1 ++ [⟨nm, 1⟩])) by rw [flatC_snoc]; exact hown7)
                          have hs7 := bw7.out.size
                          have hsw7 : b1 + 2 ≤ w7.heap.size := by have h1 := hgrow7.size; have h2 := j6.size; omega
                          have hgb7 := Lib.hid (fun (q : Nat) (e : (Value.slice A7 (ng + 1) c7).ownBlock = some q) => show q ≠ b1 ∧ q ≠ b1 + 1 from by
                            rcases hat7 with h | h
                            · exact hgb5.out q (h ▸ e)
                            · rw [h] at e
                              injection e with e
                              have := j6.size
                              omega)
                          have z0 := bS7.out.cell 0 _ rfl
                          have zf := bS7.out.froz 0
                          have zl := bS7.out.lt
                          clear hown7 hgrow7 hat7 j7 hO4 bS5 bP4 bD4 bw4 hG6 hA5 j6 j5 hs5 hb5 hG5 y0 f0 lS hTab4
                          repeat (first | ((with_reducible refine wpD_p (fun K hK => ?_)); go_simp; refine hK _ ?_; clear hK K) | ((with_reducible refine wpD_q (fun K hK => ?_)); go_simp; (first | refine hK _ ?_ | (go_bits; refine hK _ ?_) | (go_bits; go_simp; refine hK _ ?_)); clear hK K))
                          with_reducible refine wpD_b (fun K hK => ?_)
                          go_simp
                          refine hK _ _ ?_
                          clear hK K
                          with_reducible refine wpD_nil ?_
                          have hO8 := Lib.hid (hO7.out.setBelow (p := ⟨B, 0, none⟩) (Nat.lt_succ_self _) (.slice A7 (ng + 1) c7))
                          have bS8 := Lib.hid (bS7.out.setSame 0 (.slice A7 (ng + 1) c7))
                          have bP8 := Lib.hid (bP7.out.setOther (a := ⟨B, 0, none⟩) (by simp; omega) (.slice A7 (ng + 1) c7))
                          have bD8 := Lib.hid (bD7.out.setOther (a := ⟨B, 0, none⟩) (by simp; omega) (.slice A7 (ng + 1) c7))
                          have hG8 := Lib.hid (ownsRow_setB hG7.out (p := ⟨B, 0, none⟩) (Nat.lt_succ_self _) (.slice A7 (ng + 1) c7))
                          have bw8 := Lib.hid (bw7.out.setCell (p := ⟨B, 0, none⟩) hBl (.slice A7 (ng + 1) c7))
                          obtain ⟨w8, hw8⟩ : ∃ w8, w8 = w7.setCell ⟨B, 0, none⟩ (.slice A7 (ng + 1) c7) := ⟨_, rfl⟩
                          have hsw8 : b1 + 2 ≤ w8.heap.size := by rw [hw8]; simpa using hsw7
                          rw [← hw8] at hO8 bS8 bP8 bD8 hG8 bw8 ⊢
                          clear hw8 hO7 bS7 bP7 bD7 hG7 bw7 z0 zf zl hs7 hsw7
                          -- regions 26, 27: the tile's own side
                          obtain ⟨tv, htv⟩ : ∃ t, sj.2[v]? = some t := ⟨_, List.getElem?_eq_getElem (by rw [hGI.len]; exact hvn)⟩
                          obtain ⟨bv, cv, huv, hbv1, hbv2, fv, hcv⟩ := hO8.out.sideAt hGI.four htv
                          obtain ⟨gT, cT, eT, hgT1, hgT2, hcT⟩ := hO8.out.outAt huv
                          have hus : us.length = k := hO8.out.len.trans hGI.len
                          rw [hus] at eT
                          clear hus
                          obtain ⟨eT1, eT3⟩ : B2 = some ⟨gT, 0, none⟩ ∧ c2 = cT := by
                            injection eT with e1 e2 e3
                            exact ⟨e1, e3⟩
                          clear eT
                          subst eT1 eT3
                          obtain ⟨xv, hxv⟩ := hcv d hd4
                          have fvd := fv d
                          have lT := hgT2
                          have y0 := bS8.out.cell 0 _ rfl
                          have y1 := bS8.out.cell 1 _ rfl
                          have lS := bS8.out.lt
                          have hbv3 := (hub.out v _ bv huv rfl).2
                          have huvH := Lib.hid huv
                          have htvH := Lib.hid htv
                          have hfvH := Lib.hid fv
                          have hcvH := Lib.hid hcv
                          clear huv htv fv hcv
                          have hd4I : (d : Int) < 4 := by omega
                          go_wp2_with fail
                          have hne7 : (Value.slice A7 (ng + 1) c7).ownBlock ≠ some bv := own_ne_own (hO8.out.inner v _ tv huvH.out htvH.out) hG8.out (by decide) rfl
                          have hO9 := Lib.hid (hO8.out.setSide (d := d) ((ng : Int) + 1) huvH.out htvH.out)
                          have hG9 := Lib.hid (kept_set hG8.out bv d (.int .i64 ((ng : Int) + 1)) hne7)
                          have bS9 := Lib.hid (bS8.out.setOther (a := ⟨bv, d, none⟩) (show bv ≠ B by omega) (.int .i64 ((ng : Int) + 1)))
                          have bP9 := Lib.hid (bP8.out.setOther (a := ⟨bv, d, none⟩) (show bv ≠ b1 by omega) (.int .i64 ((ng : Int) + 1)))
                          have bD9 := Lib.hid (bD8.out.setOther (a := ⟨bv, d, none⟩) (show bv ≠ b1 + 1 by omega) (.int .i64 ((ng : Int) + 1)))
                          have bw9 := Lib.hid (bw8.out.setCell (p := ⟨bv, d, none⟩) (show w2.heap.size ≤ bv by omega) (.int .i64 ((ng : Int) + 1)))
                          obtain ⟨w9, hw9⟩ : ∃ w9, w9 = w8.setCell ⟨bv, d, none⟩ (.int .i64 ((ng : Int) + 1)) := ⟨_, rfl⟩
                          have hsw9 : b1 + 2 ≤ w9.heap.size := by rw [hw9]; simpa using hsw8
                          rw [← hw9] at hO9 hG9 bS9 bP9 bD9 bw9 ⊢
                          clear hw9 hO8 hG8 bS8 bP8 bD8 bw8 hne7 y0 y1 lS lT hcT hxv fvd hbv1 hbv2 hbv3 hgT1 hgT2 huvH htvH hfvH hcvH
                          obtain ⟨tk, htk⟩ : ∃ t, (setSide sj.2 v d ((ng : Int) + 1))[rI]? = some t := ⟨_, List.getElem?_eq_getElem (by rw [setSide_len, hGI.len]; exact hrk)⟩
                          obtain ⟨bk, ck, huk, hbk1, hbk2, fk, hck⟩ := hO9.out.sideAt (hGI.four.set v d _) htk
                          obtain ⟨g2, cT2, eT, hgT1, hgT2, hcT⟩ := hO9.out.outAt huk
                          obtain rfl : gT = g2 := by injection eT with e1 _ _; injection e1 with e1; injection e1
                          have ho4 : oppN d < 4 := opp4 hd4
                          have ho4I : ((oppN d : Nat) : Int) < 4 := by omega
                          obtain ⟨xk, hxk⟩ := hck (oppN d) ho4
                          have fkd := fk (oppN d)
                          have lT := hgT2
                          have y1 := bS9.out.cell 1 _ rfl
                          have lS := bS9.out.lt
                          have hbk3 := (hub.out rI _ bk huk rfl).2
                          have hukH := Lib.hid huk
                          have htkH := Lib.hid htk
                          clear huk htk fk hck eT
                          refine wp_region_ord [(0, .q), (1, .q), (2, .q), (3, .q), (4, .q), (5, .q), (6, .q), (8, .q), (7, .g), (9, .q), (10, .b)] (by kernel_rfl) (by kernel_rfl) ?_
                          simp only [pick, List.filterMap_cons, List.filterMap_nil, List.getElem?_toArray, List.getElem?_cons_zero, List.getElem?_cons_succ, Option.map_some]
                          repeat (first
                            | ((with_reducible refine wpD_p (fun K hK => ?_)); go_simp; refine hK _ ?_; clear hK K)
                            | ((with_reducible refine wpD_q (fun K hK => ?_)); go_simp; (first | refine hK _ ?_ | (go_bits; refine hK _ ?_) | (go_bits; go_simp; refine hK _ ?_)); clear hK K)
                            | ((with_reducible refine wpD_g (fun K hK => ?_)); go_simp; refine hK _ _ ?_; clear hK K)
                            | ((with_reducible refine wpD_g (fun K hK => ?_)); go_simp; refine ⟨Grew.of_alloc _, hK _ _ ?_⟩; clear hK K)
                            | ((with_reducible refine wpD_g (fun K hK => ?_)); go_simp; go_at_call 35; refine (opposite_any _ _ hd4).mono ?_; rintro e _ ⟨rfl, rfl⟩; refine ⟨_, rfl, Below.refl _ _, hK _ _ ?_⟩; clear hK K))
                          with_reducible refine wpD_b (fun K hK => ?_)
                          go_simp
                          refine hK _ _ ?_
                          clear hK K
                          with_reducible refine wpD_nil ?_
                          have hdr : Below (w9.setCell ⟨bk, oppN d, none⟩ (.int .i64 ((ng : Int) + 1))).heap.size (w9.setCell ⟨bk, oppN d, none⟩ (.int .i64 ((ng : Int) + 1))) (w9.setCell ⟨bk, oppN d, none⟩ (.int .i64 ((ng : Int) + 1))).drew := bl_dr (bl_refl _)
                          have hne9 : (Value.slice A7 (ng + 1) c7).ownBlock ≠ some bk := own_ne_own (hO9.out.inner rI _ tk hukH.out htkH.out) hG9.out (by decide) rfl
                          have hO10 := Lib.hid ((hO9.out.setSide (d := oppN d) ((ng : Int) + 1) hukH.out htkH.out).below hdr)
                          have hG10 := Lib.hid (ownsRow_below (kept_set hG9.out bk (oppN d) (.int .i64 ((ng : Int) + 1)) hne9) hdr)
                          have bS10 := Lib.hid ((bS9.out.setOther (a := ⟨bk, oppN d, none⟩) (show bk ≠ B by omega) (.int .i64 ((ng : Int) + 1))).below hdr)
                          have bP10 := Lib.hid ((bP9.out.setOther (a := ⟨bk, oppN d, none⟩) (show bk ≠ b1 by omega) (.int .i64 ((ng : Int) + 1))).below hdr)
                          have bD10 := Lib.hid ((bD9.out.setOther (a := ⟨bk, oppN d, none⟩) (show bk ≠ b1 + 1 by omega) (.int .i64 ((ng : Int) + 1))).below hdr)
                          have bw10 := bw9.out.setCell (p := ⟨bk, oppN d, none⟩) (show w2.heap.size ≤ bk by omega) (.int .i64 ((ng : Int) + 1))
                          replace bw10 := Lib.hid (bw10.trans (hdr.mono bw10.size))
                          have hl10 : (sj.1 ++ [(⟨nm, 1⟩ : Gl)]).length = ng + 1 := by rw [List.length_append, hngH.out]; rfl
                          have hx10 : ((ng + 1 : Nat) : Int) = (ng : Int) + 1 := by omega
                          have hsj10 := Lib.hid (show glue1 ps par _ v (1 - j) (glueJ ps par _ v st j) = (sj.1 ++ [(⟨nm, 1⟩ : Gl)], setSide (setSide sj.2 v d ((ng : Int) + 1)) rI (oppN d) ((ng : Int) + 1)) by rw [hdH.out, hsj.out, glue1_some hnbH.out hS2.out (by decide), hngH.out, hnm, hx10])
                          have hlH := Lib.hid hl10
                          clear hl10 hx10 hO9 hG9 bS9 bP9 bD9 bw9 hne9 y1 lS lT hcT hxk fkd hdr
                          go_wp2
                          go_roundg (2 - (j + 1))
                          case measure => omega
                          case rel => exact ⟨j + 1, _, A7, c7, by omega, by go_num, hsj10, hO10, Lib.hid (by rw [hlH.out]; exact hG10.out), Lib.hid (by rw [hlH.out]; exact bS10.out), bP10, bD10, bw10, Lib.hid (by rw [hlH.out]; exact hgb7.out), by simp; omega⟩
                        | false =>
                          have hS2 := Lib.hid (show strS par false v d rI = 0 by unfold strS; rw [if_neg (by rintro (h | h); exact hp1' h; exact hp2' h)]; rfl)
                          clear if1 if2 hp1' hp2' e1 e2
                          go_wp2_with fail
                          refine wp_region_ord [(0, .q), (1, .q), (2, .q), (3, .q), (4, .q), (5, .q), (6, .q), (7, .q), (8, .q), (9, .q), (10, .q), (11, .q), (12, .q), (13, .q), (14, .q), (15, .q), (16, .q), (17, .q), (18, .q), (19, .q), (20, .q), (21, .q), (22, .q), (23, .q), (24, .q)] (by kernel_rfl) (by kernel_rfl) ?_
                          simp only [pick, List.filterMap_cons, List.filterMap_nil, List.getElem?_toArray, List.getElem?_cons_zero, List.getElem?_cons_succ, Option.map_some]
                          repeat (first | ((with_reducible refine wpD_p (fun K hK => ?_)); go_simp; refine hK _ ?_; clear hK K) | ((with_reducible refine wpD_q (fun K hK => ?_)); go_simp; (first | refine hK _ ?_ | (go_bits; refine hK _ ?_) | (go_bits; go_simp; refine hK _ ?_)); clear hK K))
                          refine wpD_look (by go_simp) _ _ rfl bt mt _ rfl hM4.out px py (W64.of (by omega)) (W64.of (by omega)) rfl gi lk1.out ?_
                          repeat (first | ((with_reducible refine wpD_p (fun K hK => ?_)); go_simp; refine hK _ ?_; clear hK K) | ((with_reducible refine wpD_q (fun K hK => ?_)); go_simp; (first | refine hK _ ?_ | (go_bits; refine hK _ ?_) | (go_bits; go_simp; refine hK _ ?_)); clear hK K))
                          refine wpD_look (by go_simp) _ _ rfl bt mt _ rfl hM4.out sx sy (W64.of (by omega)) (W64.of (by omega)) rfl gk lk2.out ?_
                          repeat (first | ((with_reducible refine wpD_p (fun K hK => ?_)); go_simp; refine hK _ ?_; clear hK K) | ((with_reducible refine wpD_q (fun K hK => ?_)); go_simp; (first | refine hK _ ?_ | (go_bits; refine hK _ ?_) | (go_bits; go_simp; refine hK _ ?_)); clear hK K))
                          refine wpD_look (by go_simp) _ _ rfl bt mt _ rfl hM4.out sx sy (W64.of (by omega)) (W64.of (by omega)) rfl gk lk2.out ?_
                          repeat (first | ((with_reducible refine wpD_p (fun K hK => ?_)); go_simp; refine hK _ ?_; clear hK K) | ((with_reducible refine wpD_q (fun K hK => ?_)); go_simp; (first | refine hK _ ?_ | (go_bits; refine hK _ ?_) | (go_bits; go_simp; refine hK _ ?_)); clear hK K))
                          refine wpD_look (by go_simp) _ _ rfl bt mt _ rfl hM4.out px py (W64.of (by omega)) (W64.of (by omega)) rfl gi lk1.out ?_
                          repeat (first
                            | ((with_reducible refine wpD_p (fun K hK => ?_)); go_simp; refine hK _ ?_; clear hK K)
                            | ((with_reducible refine wpD_q (fun K hK => ?_)); go_simp; (first | refine hK _ ?_ | (go_bits; refine hK _ ?_) | (go_bits; go_simp; refine hK _ ?_)); clear hK K)
                            | ((with_reducible refine wpD_g (fun K hK => ?_)); go_simp; refine hK _ _ ?_; clear hK K)
                            | ((with_reducible refine wpD_g (fun K hK => ?_)); go_simp; refine ⟨Grew.of_alloc _, hK _ _ ?_⟩; clear hK K))
                          with_reducible refine wpD_nil ?_
                          clear lk1 lk2 t1 t2 l1 l2 x0 x1 y0 y1 lx ly
                          have hdr : Below w4.heap.size w4 w4.drew := bl_dr (bl_refl _)
                          replace hO4 := Lib.hid (hO4.out.below hdr)
                          replace hG4 := Lib.hid (ownsRow_below hG4.out hdr)
                          replace bS4 := Lib.hid (bS4.out.below hdr)
                          replace bP4 := Lib.hid (bP4.out.below hdr)
                          replace bD4 := Lib.hid (bD4.out.below hdr)
                          replace bw4 := Lib.hid (bw4.out.trans (hdr.mono bw4.out.size))
                          replace hs4 := Nat.le_trans hs4 hdr.size
                          obtain ⟨wd, hwd⟩ : ∃ wd, wd = w4.drew := ⟨_, rfl⟩
                          rw [← hwd] at hO4 hG4 bS4 bP4 bD4 bw4 hs4 ⊢
                          clear hdr hwd hM4 bQ4 hstopH he1
                          clear he2
                          go_wp2
                          go_roundg (2 - (j + 1))
                          case measure => omega
                          case rel => exact ⟨j + 1, sj, A1, c1, by omega, by go_num, Lib.hid (show glue1 ps par false v (1 - j) (glueJ ps par false v st j) = sj by rw [hdH.out, glue1_zero hnbH.out hS2.out]; exact hsj.out), hO4, hG4, bS4, bP4, bD4, bw4, hgb, by omega⟩
                · obtain rfl : j = 2 := by omega
                  go_wp2
                  go_roundg (k - (v + 1))
                  case measure => omega
                  case rel => exact ⟨v + 1, sj, us, A1, c1, B2, c2, by omega, by go_num, Lib.hid (show glueJ ps par solid v (glueI ps par solid ([], tiles0 k) v) 2 = sj by rw [hst.out]; exact hsj.out), hO, hG, bS, hbw, by omega⟩
            · obtain rfl : v = k := by omega
              have hst2 := Lib.hid (show shapeG ps rn solid = st by unfold shapeG; rw [hparH.out, hl.out]; exact hst.out)
              have hGI : GInvS v (0 + 2 * v) st := by
                rw [← hst.out]
                exact ((GInvS.start v).I ps par _ v)
              have hAy := Lib.hid ((hH.out.below RPt.stable hb2H.out).below RPt.stable hbw.out)
              obtain ⟨bb', ob', eA, hbb, hbc⟩ := hAy.out.ptr (by omega)
              injection eA with eA
              injection eA with eA1 eA2 _
              subst eA1 eA2
              obtain ⟨p0, p1⟩ := hbc rn _ heH.out
              have heL := Lib.hid (show shapeL ps rn solid = [⟨ex, ey, rn⟩] by unfold shapeL; rw [heH.out])
              simp only at p0 p1
              obtain ⟨ng, hng⟩ : ∃ ng, st.1.length = ng := ⟨_, rfl⟩
              have bSx := bS.out
              rw [hng] at bSx
              have hngH := Lib.hid hng
              have hng3 : ng ≤ 400 := by rw [← hng]; have := hGI.gl; omega
              have bR3 := Lib.hid (bR2.out.below hbw.out)
              have y0 := bSx.cell 0 _ rfl
              have y1 := bSx.cell 1 _ rfl
              have fB := bSx.froz
              have lB := bSx.lt
              have fR := bR3.out.froz
              have z0 := bR3.out.cell 0 _ rfl
              have z1 := bR3.out.cell 1 _ rfl
              have z2 := bR3.out.cell 2 _ rfl
              have z3 := bR3.out.cell 3 _ rfl
              have lR3 := bR3.out.lt
              have hlB : w.heap.size < B + 1 := by omega
              clear hbc bSx hng
              by_cases hfull : 200 < ng
              · have hf2 : (ng : Int) > 200 := by omega
                have hR := Lib.hid (shapeS_many (solid := solid) hcH.out (by rw [hl.out]; omega) (by rw [hst2.out, hngH.out]; exact hfull)).symm
                go_wp2
                refine bodyPost_ret (v := .tuple #[.agg #[.slice none 0 0, .slice none 0 0, .slice none 0 0, .int .i64 0], .int .i64 4]) (by simp only [results, Tryz.results18]; go_simp) rfl ?_
                exact SyRes.nil_ hR.out (bl_sys (hb2H.out.trans (hbw.out.mono hb2H.out.size)) _ _ _ _)
              · have hf2 : ¬ (ng : Int) > 200 := by omega
                have hR := Lib.hid (shapeS_ok (solid := solid) hcH.out (by rw [hl.out]; omega) (by rw [hst2.out, hngH.out]; exact hfull)).symm
                go_wp2_with fail
                refine wp_region_ord [(0, .q), (1, .q), (2, .q), (3, .q), (4, .q), (5, .q), (6, .q), (7, .g), (8, .q), (9, .q), (10, .b), (11, .q)] (by kernel_rfl) (by kernel_rfl) ?_
                simp only [pick, List.filterMap_cons, List.filterMap_nil, List.getElem?_toArray, List.getElem?_cons_zero, List.getElem?_cons_succ, Option.map_some]
                repeat (first
                  | ((with_reducible refine wpD_p (fun K hK => ?_)); go_simp; refine hK _ ?_; clear hK K)
                  | ((with_reducible refine wpD_q (fun K hK => ?_)); go_simp; (first | refine hK _ ?_ | (go_bits; refine hK _ ?_) | (go_bits; go_simp; refine hK _ ?_)); clear hK K)
                  | ((with_reducible refine wpD_g (fun K hK => ?_)); go_simp; refine hK _ _ ?_; clear hK K)
                  | ((with_reducible refine wpD_g (fun K hK => ?_)); go_simp; refine ⟨Grew.of_alloc _, hK _ _ ?_⟩; clear hK K))
                with_reducible refine wpD_b (fun K hK => ?_)
                go_simp
                refine hK _ _ ?_
                clear hK K
                repeat (first | ((with_reducible refine wpD_p (fun K hK => ?_)); go_simp; refine hK _ ?_; clear hK K) | ((with_reducible refine wpD_q (fun K hK => ?_)); go_simp; (first | refine hK _ ?_ | (go_bits; refine hK _ ?_) | (go_bits; go_simp; refine hK _ ?_)); clear hK K))
                with_reducible refine wpD_nil ?_
                go_wp2
                refine bodyPost_ret (v := .tuple #[.agg #[.slice A1 ng c1, .slice B2 v c2, .slice (some ⟨wr.heap.size, 0, none⟩) 1 1, .int .i64 2], .int .i64 0]) (by simp only [results, Tryz.results18]; go_simp) rfl ?_
                obtain ⟨W4, hW4⟩ : ∃ W4, W4 = ((((wr.setCell ⟨w.heap.size, 0, none⟩ (.slice A1 ng c1)).setCell ⟨w.heap.size, 1, none⟩ (.slice B2 v c2)).setCell ⟨w.heap.size, 2, none⟩ (.slice (some ⟨wr.heap.size, 0, none⟩) 1 1)).setCell ⟨w.heap.size, 3, none⟩ (.int .i64 2)) := ⟨_, rfl⟩
                have hs4 : W4.heap.size = wr.heap.size := by rw [hW4]; simp
                have hp4 := World.ownsRow_lit (base := B + 1) (e := 72) (size := 3) W4 #[.int .i64 ex, .int .i64 ey, .int .i64 (rn : Int)] 1 (by omega) (by decide) rfl
                have hO4 := hO.out.set4 hlB (.slice A1 ng c1) (.slice B2 v c2) (.slice (some ⟨wr.heap.size, 0, none⟩) 1 1) (.int .i64 2)
                have hG4 := row_set4 hG.out hlB (.slice A1 ng c1) (.slice B2 v c2) (.slice (some ⟨wr.heap.size, 0, none⟩) 1 1) (.int .i64 2)
                have hb4 := bl_sys (hb2H.out.trans (hbw.out.mono hb2H.out.size)) (.slice A1 ng c1) (.slice B2 v c2) (.slice (some ⟨wr.heap.size, 0, none⟩) 1 1) (.int .i64 2)
                rw [← hW4] at hO4 hG4 hb4 ⊢
                rw [hs4] at hp4
                have hal : Below W4.heap.size W4 (W4.alloc (Obj.cells #[.int .i64 ex, .int .i64 ey, .int .i64 (rn : Int)] 72)) := bl_al (bl_refl _) _
                have hdd : Below (W4.alloc (Obj.cells #[.int .i64 ex, .int .i64 ey, .int .i64 (rn : Int)] 72)).heap.size (W4.alloc (Obj.cells #[.int .i64 ex, .int .i64 ey, .int .i64 (rn : Int)] 72)) (W4.alloc (Obj.cells #[.int .i64 ex, .int .i64 ey, .int .i64 (rn : Int)] 72)).drew := bl_dr (bl_refl _)
                have had := hal.trans (hdd.mono hal.size)
                rw [← hR.out]
                refine ⟨A1, B2, some ⟨wr.heap.size, 0, none⟩, c1, c2, 1, us, ?_, ?_, hb4.trans (had.mono hb4.size)⟩
                · simp only
                  rw [hst2.out, hngH.out, hGI.len, heL.out]
                  rfl
                · simp only
                  rw [hst2.out, heL.out]
                  refine OwnSy.of (base := B + 1) (by omega) ?_ (ownsRow_below hG4 had) ?_ ?_ hGI.four
                  · simp; omega
                  · rw [hGI.len]; exact hO4.below had
                  · exact ownsRow_below hp4 hdd
  · have hR := Lib.hid (shapeS_bad (solid := solid) hc).symm
    obtain ⟨code, hcode⟩ : ∃ code, treeC ps r = code := ⟨_, rfl⟩
    have hc1 : code = 1 ∨ code = 2 := by
      have := treeC_cases ps r
      rw [hcode] at this hc
      omega
    rw [hcode] at hR
    have hcH := Lib.hid hcode
    clear hcode hc
    rcases hc1 with rfl | rfl
    · go_enter Tryz.func18, Tryz.ntmps18
      go_wp2_with fail
      refine (rootCode_at (hH.out.below RPt.stable (bl_al (bl_refl _) _)) hn hcH.out).mono ?_
      rintro e w1 ⟨rfl, hb1⟩
      have hb1H := Lib.hid (show Below w.heap.size w w1 from (bl_al (bl_refl _) _).trans (hb1.mono (by simp)))
      have bR := (Bx.made w [.slice none 0 0, .slice none 0 0, .slice none 0 0, .int .i64 0] 32).below hb1
      have z0 := bR.cell 0 _ rfl
      have z1 := bR.cell 1 _ rfl
      have z2 := bR.cell 2 _ rfl
      have z3 := bR.cell 3 _ rfl
      have f0 := bR.froz
      have l0 := bR.lt
      clear hb1 bR
      go_wp2
      refine bodyPost_ret (v := .tuple #[.agg #[.slice none 0 0, .slice none 0 0, .slice none 0 0, .int .i64 0], .int .i64 1]) (by simp only [results, Tryz.results18]; go_simp) rfl ?_
      exact SyRes.nil_ hR.out (bl_sys hb1H.out _ _ _ _)
    · go_enter Tryz.func18, Tryz.ntmps18
      go_wp2_with fail
      refine (rootCode_at (hH.out.below RPt.stable (bl_al (bl_refl _) _)) hn hcH.out).mono ?_
      rintro e w1 ⟨rfl, hb1⟩
      have hb1H := Lib.hid (show Below w.heap.size w w1 from (bl_al (bl_refl _) _).trans (hb1.mono (by simp)))
      have bR := (Bx.made w [.slice none 0 0, .slice none 0 0, .slice none 0 0, .int .i64 0] 32).below hb1
      have z0 := bR.cell 0 _ rfl
      have z1 := bR.cell 1 _ rfl
      have z2 := bR.cell 2 _ rfl
      have z3 := bR.cell 3 _ rfl
      have f0 := bR.froz
      have l0 := bR.lt
      clear hb1 bR
      go_wp2
      refine bodyPost_ret (v := .tuple #[.agg #[.slice none 0 0, .slice none 0 0, .slice none 0 0, .int .i64 0], .int .i64 2]) (by simp only [results, Tryz.results18]; go_simp) rfl ?_
      exact SyRes.nil_ hR.out (bl_sys hb1H.out _ _ _ _)
end Go.Proofs.YtdcndhiidjgmaaaGreatDoor
