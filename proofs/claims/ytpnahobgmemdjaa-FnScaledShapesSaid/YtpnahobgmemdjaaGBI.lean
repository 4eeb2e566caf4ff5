import Derived.Test.YtpnahobgmemdjaaGBH
import Derived.Test.YtpnahobgmemdjaaGAK
import Derived.Test.YtpnahobgmemdjaaGAB
import Derived.Test.YtpnahobgmemdjaaGAR
import Derived.Deep.OwnRows
import Derived.Test.YtpnahobgmemdjaaGAO
set_option linter.unusedSimpArgs false
set_option linter.unusedVariables false
/- Walks: the program reaches the points of a shape from one of them. -/


namespace Go.Proofs.Ytpnahobgmemdjaa
open Go.RowKit Go.Shelf
attribute [local go_sem] BelowBy.cell BelowBy.cell_drew stillUpon givesUpon

theorem Shp.sortedS {ps : List Pt} (h : Shp ps) : SortS ps := by
  unfold SortS
  rw [List.pairwise_iff_getElem]
  exact fun i j hi hj hij => h.sorted i j _ _ hij (List.getElem?_eq_getElem hi) (List.getElem?_eq_getElem hj)
theorem idxP_mem {ps : List Pt} {x y : Int} {v : Nat} (h : idxP ps x y = some v) : decide ((⟨x, y⟩ : Pt) ∈ ps) = true :=
  decide_eq_true (List.mem_of_getElem? (idxP_some h))
theorem idxP_off {ps : List Pt} {x y : Int} (h : idxP ps x y = none) : decide ((⟨x, y⟩ : Pt) ∈ ps) = false :=
  decide_eq_false fun hm => by
    obtain ⟨k, hk⟩ := List.mem_iff_getElem?.1 hm
    exact idxP_none h k hk
abbrev WaySt := List Nat × List Int × List Int
section
variable {w w' : World} {B : Nat} {ps : List Pt} {st : WaySt} {T : Nat → Option Nat}
end
/-- what the map of the trips says -/
def tripM (ps : List Pt) (T : Nat → Option Nat) (x y : Int) : Option Nat := (idxP ps x y).bind T
theorem tripM_none {ps : List Pt} {T : Nat → Option Nat} {x y : Int} (h : idxP ps x y = none) : tripM ps T x y = none := by unfold tripM; rw [h]; rfl
theorem tripM_at {ps : List Pt} {T : Nat → Option Nat} {x y : Int} {v : Nat} (h : idxP ps x y = some v) : tripM ps T x y = T v := by unfold tripM; rw [h]; rfl
theorem tripM_put {ps : List Pt} (hS : Shp ps) {T : Nat → Option Nat} {v g : Nat} {e : Pt} (he : ps[v]? = some e) (x y : Int) : (if x = e.x ∧ y = e.y then some g else tripM ps T x y) = tripM ps (fun u => if u = v then some g else T u) x y := by
  unfold tripM
  by_cases hxy : x = e.x ∧ y = e.y
  · obtain ⟨rfl, rfl⟩ := hxy
    rw [hS.idx he]
    simp
  · rw [if_neg hxy]
    cases hi : idxP ps x y with
    | none => rfl
    | some k =>
      have hk : k ≠ v := fun e' => by
        subst e'
        have := idxP_some hi
        rw [he] at this
        injection this with this
        subst this
        exact hxy ⟨rfl, rfl⟩
      simp [hk]
theorem way1_none {ps : List Pt} {k d u : Nat} {st : WaySt} {e : Pt} (hu : st.1[k]? = some u) (he : ps[u]? = some e) (hl : idxP ps (stepX e.x d) (stepY e.y d) = none) : way1 (nbP ps) k d st = st := by
  unfold way1 nbP
  rw [hu]
  simp only [he, hl]
theorem way1_old {ps : List Pt} {k d u v : Nat} {st : WaySt} {e : Pt} {s : Int} (hu : st.1[k]? = some u) (he : ps[u]? = some e) (hl : idxP ps (stepX e.x d) (stepY e.y d) = some v) (hv : st.2.2[v]? = some s) (hs : s ≠ -1) : way1 (nbP ps) k d st = st := by
  unfold way1 nbP
  rw [hu]
  simp only [he, hl, hv]
  rw [if_neg (fun e => hs (by injection e))]
theorem way1_new {ps : List Pt} {k d u v : Nat} {st : WaySt} {e : Pt} {s : Int} (hu : st.1[k]? = some u) (he : ps[u]? = some e) (hl : idxP ps (stepX e.x d) (stepY e.y d) = some v) (hv : st.2.2[v]? = some (-1)) (hs : st.2.2[u]? = some s) : way1 (nbP ps) k d st = (st.1 ++ [v], st.2.1.set v (backI d), st.2.2.set v (s + 1)) := by
  unfold way1 nbP
  rw [hu]
  simp only [he, hl, hv, hs]
  rfl
theorem nbP_back {ps : List Pt} (h : Shp ps) {u d v : Nat} {e : Pt} (hu : ps[u]? = some e) (hd : d < 4) (hv : idxP ps (stepX e.x d) (stepY e.y d) = some v) : nbP ps v ((d + 2) % 4) = some u := by
  have hk := idxP_some hv
  unfold nbP
  rw [hk]
  simp only
  have hb : stepX (stepX e.x d) (((d + 2) % 4 : Nat) : Int) = e.x ∧ stepY (stepY e.y d) (((d + 2) % 4 : Nat) : Int) = e.y := by
    have : d = 0 ∨ d = 1 ∨ d = 2 ∨ d = 3 := by omega
    rcases this with rfl | rfl | rfl | rfl <;> simp [stepX, stepY]
  rw [hb.1, hb.2]
  exact h.idx hu
theorem oppN_back (d : Nat) (hd : d < 4) : (oppN d : Int) = backI d := by
  have : d = 0 ∨ d = 1 ∨ d = 2 ∨ d = 3 := by omega
  rcases this with rfl | rfl | rfl | rfl <;> rfl
end Go.Proofs.Ytpnahobgmemdjaa
/- Boxes of points: a block that holds one point of the call's own; the blocks that a region leaves alone. -/



namespace Go.Proofs.Ytpnahobgmemdjaa
open Go.RowKit
/-- block b is a box of the point (x, y) -/
def PtB (w : World) (b : Nat) (x y : Int) : Prop := w.rowIs b 34 2 (fun i => if i = 0 then .int .i64 x else .int .i64 y)
section
variable {w w' : World} {b : Nat} {x y : Int}
theorem PtB.c0 (h : PtB w b x y) : w.cell? ⟨b, 0, none⟩ = some (.int .i64 x) := World.rowIs.cell h (i := 0) (by decide)
theorem PtB.c1 (h : PtB w b x y) : w.cell? ⟨b, 1, none⟩ = some (.int .i64 y) := World.rowIs.cell h (i := 1) (by decide)
theorem PtB.f0 (h : PtB w b x y) : w.frozen? ⟨b, 0, none⟩ = false := World.rowIs.frozen h 0
theorem PtB.f1 (h : PtB w b x y) : w.frozen? ⟨b, 1, none⟩ = false := World.rowIs.frozen h 1
theorem PtB.lt (h : PtB w b x y) : b < w.heap.size := World.rowIs.lt h
theorem PtB.of_block (h : PtB w b x y) (e : w'.heap[b]? = w.heap[b]?) : PtB w' b x y := World.rowIs.of_block h e
theorem PtB.new (w : World) (x y : Int) : PtB (w.alloc (.cells #[.int .i64 x, .int .i64 y] 34)) w.heap.size x y :=
  World.rowIs_alloc w _ _ _ (fun i hi => by
    match i, hi with
    | 0, _ => rfl
    | 1, _ => rfl)
theorem PtB.ofHeap (h : w.heap[b]? = some (.cells #[.int .i64 x, .int .i64 y] 34 (0, 0))) : PtB w b x y :=
  ⟨_, h, rfl, fun i hi => by
    match i, hi with
    | 0, _ => rfl
    | 1, _ => rfl⟩
theorem PtB.al (h : PtB w b x y) (o : Obj) : PtB (w.alloc o) b x y := World.rowIs.alloc h o
theorem PtB.dr (h : PtB w b x y) : PtB w.drew b x y := h
theorem PtB.below (h : PtB w b x y) (hb : Below w.heap.size w w') : PtB w' b x y := h.of_block (hb.block b h.lt)
theorem PtB.put (h : PtB w b x y) (u v : Int) : PtB ((w.setCell ⟨b, 0, none⟩ (.int .i64 u)).setCell ⟨b, 1, none⟩ (.int .i64 v)) b u v := by
  refine World.rowIs.congr ((World.rowIs.set h 0 (.int .i64 u)).set 1 (.int .i64 v)) ?_
  intro i hi
  match i, hi with
  | 0, _ => rfl
  | 1, _ => rfl
theorem PtB.far (h : PtB w b x y) {c j : Nat} (hn : b ≠ c) (v : Value) : PtB (w.setCell ⟨c, j, none⟩ v) b x y := World.rowIs.setOther h hn v
theorem PtB.far2 (h : PtB w b x y) {c : Nat} (hn : b ≠ c) (u v : Value) : PtB ((w.setCell ⟨c, 0, none⟩ u).setCell ⟨c, 1, none⟩ v) b x y := (h.far hn u).far hn v
end
/-- a world that is W0 but for the blocks out of S -/
structure Js (S : Nat → Prop) (W0 W : World) : Prop where
  size : W0.heap.size ≤ W.heap.size
  keep : ∀ b, S b → b < W0.heap.size → W.heap[b]? = W0.heap[b]?
section
variable {S : Nat → Prop} {W0 W : World}
theorem Js.refl (S : Nat → Prop) (W : World) : Js S W W := ⟨Nat.le_refl _, fun _ _ _ => rfl⟩
theorem Js.al (h : Js S W0 W) (o : Obj) : Js S W0 (W.alloc o) := ⟨Nat.le_trans h.size (by simp), fun b hs hb => (Below.heap_alloc _ _ _ (Nat.lt_of_lt_of_le hb h.size)).trans (h.keep b hs hb)⟩
theorem Js.set (h : Js S W0 W) {p j : Nat} (hp : ∀ b, S b → b < W0.heap.size → b ≠ p) (u : Value) : Js S W0 (W.setCell ⟨p, j, none⟩ u) :=
  ⟨by simp only [World.size_setCell]; exact h.size, fun b hs hb => (Below.heap_setCell _ _ _ _ (hp b hs hb)).trans (h.keep b hs hb)⟩
theorem Js.cell (h : Js S W0 W) {b : Nat} (o : Nat) (hs : S b) (hb : b < W0.heap.size) : W.cell? ⟨b, o, none⟩ = W0.cell? ⟨b, o, none⟩ := World.cell?_of_block (a := ⟨b, o, none⟩) (h.keep b hs hb)
end
end Go.Proofs.Ytpnahobgmemdjaa
/- Walks: the least rectangle of points, the program. -/


namespace Go.Proofs.Ytpnahobgmemdjaa
open Go.RowKit
attribute [local go_sem] BelowBy.cell BelowBy.cell_drew stillUpon givesUpon

theorem Js.mv {S : Nat → Prop} {W0 w W : World} {z : Obj} {st st' : Option Nat} (h : Js S W0 w) (hm : Mv z st w st' W) : Js S W0 W := by
  rcases hm with ⟨_, rfl⟩ | ⟨_, _, rfl⟩
  · exact h
  · exact h.al z
set_option maxRecDepth 100000 in
set_option maxHeartbeats 4000000 in
theorem bounds_any {A : Option Addr} {n c : Nat} {ps : List Pt} {w : World} (h : RdSl 2 RPt w A n ps) (hn : 0 < n) (hm : n ≤ 100000) :
    Calls Try.prog 85 #[.slice A n c] w fun e w' => e = .returned (.tuple #[.agg #[.int .i64 (bxN ps n).lx, .int .i64 (bxN ps n).ly], .agg #[.int .i64 (bxN ps n).hx, .int .i64 (bxN ps n).hy]]) ∧ Below w.heap.size w w' := by
  have hA := Lib.hid h
  obtain ⟨b, o, rfl, hb, hc⟩ := h.ptr hn
  obtain ⟨e0, he0⟩ := h.get hn
  obtain ⟨d0, d1⟩ := hc 0 e0 he0
  simp only [Nat.zero_mul, Nat.add_zero] at d0 d1
  have hb0 := Lib.hid (show bxN ps 0 = ⟨e0.x, e0.y, e0.x, e0.y⟩ by simp [bxN, ptA, he0])
  have hnI : (0 : Int) < (n : Int) := by omega
  have hbs : b ≤ w.heap.size := by omega
  clear h hc he0
  go_enter Try.func85, Try.ntmps85
  go_wp2_with fail
  obtain ⟨W0, hW0⟩ : ∃ W0, ((w.alloc (.cells #[.int .i64 0, .int .i64 0] 34)).alloc (.cells #[.int .i64 0, .int .i64 0] 34)).drew = W0 := ⟨_, rfl⟩
  have k0 := Lib.hid (show Below w.heap.size w W0 by rw [← hW0]; exact bl_dr (bl_al (bl_al (bl_refl _) _) _))
  have x0 : W0.cell? ⟨b, o, none⟩ = some (.int .i64 e0.x) := (k0.out.cell (p := ⟨b, o, none⟩) hb).trans d0
  have x1 : W0.cell? ⟨b, o + 1, none⟩ = some (.int .i64 e0.y) := (k0.out.cell (p := ⟨b, o + 1, none⟩) hb).trans d1
  have p2 : PtB W0 w.heap.size 0 0 := by rw [← hW0]; exact ((PtB.new w 0 0).al _).dr
  have p3 : PtB W0 (w.heap.size + 1) 0 0 := by
    rw [← hW0]
    have := PtB.new (w.alloc (.cells #[.int .i64 0, .int .i64 0] 34)) 0 0
    simp only [World.size_alloc] at this
    exact this.dr
  have s0 : W0.heap.size = w.heap.size + 2 := by rw [← hW0]; simp
  have hbW : b < W0.heap.size := by omega
  have hJc : ∀ W, Js (fun _ => True) W0 W → ∀ o', W.cell? ⟨b, o', none⟩ = W0.cell? ⟨b, o', none⟩ := fun W hW o' => hW.cell o' trivial hbW
  refine wp_region_flJ 7 [(0, .p), (1, .p), (2, .p), (3, .p), (4, .p), (5, .p), (6, .g)] [(8, .b), (9, .b)] _ (Obj.cells #[.int .i64 0, .int .i64 0] 34) (by kernel_rfl) (by kernel_rfl) (by kernel_rfl) (by kernel_rfl) rfl (fun a w => ⟨rfl, by unfold flPtr; go_simp⟩) (Js (fun _ => True) W0) (by rw [hW0]; exact Js.refl _ _) (fun W h => h.al _) ?_
  simp only [pick, List.filterMap_cons, List.filterMap_nil, List.getElem?_toArray, List.getElem?_cons_zero, List.getElem?_cons_succ, Option.map_some]
  rw [hW0]
  repeat (with_reducible refine wpLJ_pv rfl (fun K hK => ?_); apply Exists.intro; apply And.intro; (focus (intro W hW; have hc := hJc W hW; go_simp; (first | done | rfl | exact ⟨rfl, rfl⟩))); go_simp; refine hK _ ?_; clear hK K)
  with_reducible refine wpLJ_g rfl (fun K hK st4 u4 mv4 => ?_)
  go_simp
  refine ⟨((Js.refl _ _).mv mv4).al _, Grew.of_alloc _, hK _ _ _ ?_⟩
  clear hK K
  with_reducible refine wpLJ_nil (fun b5 w5 mvF => ?_)
  have hu4 := mv4.below
  have huF := mvF.below
  have fu4 := (FlAt.none (Obj.cells #[.int .i64 0, .int .i64 0] 34) W0).mv mv4
  obtain ⟨fl5, fb5⟩ := ((fu4.below ((Below.refl _ _).alloc (Nat.le_refl _) (Obj.cells #[.int .i64 0, .int .i64 0] 34))).mv mvF).2 _ rfl
  have q5 : PtB w5 b5 0 0 := PtB.ofHeap fb5
  have q4 : PtB w5 u4.heap.size 0 0 := (PtB.new u4 0 0).below huF
  have s4 : W0.heap.size ≤ u4.heap.size := hu4.size
  have k5 := Lib.hid (show Below W0.heap.size W0 w5 from hu4.trans (((Below.refl _ u4).alloc (Nat.le_refl _) (Obj.cells #[.int .i64 0, .int .i64 0] 34)).mono s4 |>.trans (huF.mono (by simp only [World.size_alloc]; omega))))
  have ne45 : u4.heap.size ≠ b5 := by
    rcases mv4 with ⟨e, rfl⟩ | ⟨_, e, rfl⟩
    · rcases mvF with ⟨e2, _⟩ | ⟨_, e2, _⟩
      · rw [e] at e2; cases e2
      · injection e2 with e2; rw [e2]; simp
    · rcases mvF with ⟨e2, _⟩ | ⟨e2, _, _⟩
      · rw [e] at e2; injection e2 with e2; rw [e2]; simp
      · rw [e] at e2; cases e2
  obtain ⟨b4, hb4⟩ : ∃ b4, u4.heap.size = b4 := ⟨_, rfl⟩
  rw [hb4] at q4 s4 ne45 ⊢
  clear mv4 mvF hu4 huF fu4 fb5 hb4
  have q5H := Lib.hid q5
  have q4H := Lib.hid q4
  have hJ5 := Lib.hid (show Js (fun _ => True) W0 w5 from ⟨k5.out.size, fun b' _ hb' => k5.out.block b' hb'⟩)
  have r0 := q4.c0
  have r1 := q4.c1
  have r2 := q4.f0
  have r3 := q4.f1
  have r4 := q5.c0
  have r5 := q5.c1
  have r6 := q5.f0
  have r7 := q5.f1
  have ne45' : ¬ b4 = b5 := ne45
  have ne54' : ¬ b5 = b4 := fun e => ne45 e.symm
  clear q4 q5
  simp only [flPtr]
  with_reducible refine wpDJ_b (fun K hK => ?_)
  go_simp
  refine ⟨(hJ5.out.set (fun b' _ hb' => by omega) _).set (fun b' _ hb' => by omega) _, hK _ _ ?_⟩
  clear hK K
  with_reducible refine wpDJ_b (fun K hK => ?_)
  go_simp
  refine ⟨(((hJ5.out.set (fun b' _ hb' => by omega) _).set (fun b' _ hb' => by omega) _).set (fun b' _ hb' => by omega) _).set (fun b' _ hb' => by omega) _, hK _ _ ?_⟩
  clear hK K
  with_reducible refine wpDJ_nil ?_
  have q4 : PtB ((((w5.setCell ⟨b4, 0, none⟩ (.int .i64 e0.x)).setCell ⟨b4, 1, none⟩ (.int .i64 e0.y)).setCell ⟨b5, 0, none⟩ (.int .i64 e0.x)).setCell ⟨b5, 1, none⟩ (.int .i64 e0.y)) b4 e0.x e0.y := (q4H.out.put _ _).far2 ne45 _ _
  have q5 : PtB ((((w5.setCell ⟨b4, 0, none⟩ (.int .i64 e0.x)).setCell ⟨b4, 1, none⟩ (.int .i64 e0.y)).setCell ⟨b5, 0, none⟩ (.int .i64 e0.x)).setCell ⟨b5, 1, none⟩ (.int .i64 e0.y)) b5 e0.x e0.y := (q5H.out.far2 (fun e => ne45 e.symm) _ _).put _ _
  have k6 : Below W0.heap.size W0 ((((w5.setCell ⟨b4, 0, none⟩ (.int .i64 e0.x)).setCell ⟨b4, 1, none⟩ (.int .i64 e0.y)).setCell ⟨b5, 0, none⟩ (.int .i64 e0.x)).setCell ⟨b5, 1, none⟩ (.int .i64 e0.y)) :=
    (((k5.out.setCell (p := ⟨b4, 0, none⟩) s4 _).setCell (p := ⟨b4, 1, none⟩) s4 _).setCell (p := ⟨b5, 0, none⟩) fl5 _).setCell (p := ⟨b5, 1, none⟩) fl5 _
  generalize ((((w5.setCell ⟨b4, 0, none⟩ (.int .i64 e0.x)).setCell ⟨b4, 1, none⟩ (.int .i64 e0.y)).setCell ⟨b5, 0, none⟩ (.int .i64 e0.x)).setCell ⟨b5, 1, none⟩ (.int .i64 e0.y)) = w6 at q4 q5 k6 ⊢
  have q2 := p2.below k6
  have q3 := p3.below k6
  have k6H := Lib.hid (show Below w.heap.size w w6 from k0.out.trans (k6.mono (by omega)))
  have start := Lib.hid (show PtB w6 b4 (bxN ps 0).lx (bxN ps 0).ly ∧ PtB w6 b5 (bxN ps 0).hx (bxN ps 0).hy by rw [hb0.out]; exact ⟨q4, q5⟩)
  have q2H := Lib.hid q2
  have q3H := Lib.hid q3
  clear r0 r1 r2 r3 r4 r5 r6 r7 q2 q3 q4 q5 k6 x0 x1 p2 p3 hJc d0 d1 hb0 q4H q5H hJ5 k5
  go_wp2
  go_loopg [16] n (fun g i wr => ∃ j : Nat, j + g = n ∧ i = .int .i64 (j : Int) ∧ Hid (Below w.heap.size w wr) ∧ Hid (PtB wr w.heap.size 0 0) ∧ Hid (PtB wr (w.heap.size + 1) 0 0) ∧ Hid (PtB wr b4 (bxN ps j).lx (bxN ps j).ly ∧ PtB wr b5 (bxN ps j).hx (bxN ps j).hy))
  case atStart => exact ⟨0, by omega, rfl, k6H, q2H, q3H, start⟩
  case round =>
    obtain ⟨j, hj, rfl, hbw, hq2, hq3, hq⟩ := hrel
    have a0 := hq.out.1.c0
    have a1 := hq.out.1.c1
    have a2 := hq.out.1.f0
    have a3 := hq.out.1.f1
    have a4 := hq.out.1.lt
    have c0 := hq.out.2.c0
    have c1 := hq.out.2.c1
    have c2 := hq.out.2.f0
    have c3 := hq.out.2.f1
    have c4 := hq.out.2.lt
    have n4 : ¬ b4 = wr.heap.size := by omega
    have n5 : ¬ b5 = wr.heap.size := by omega
    have n4' : ¬ wr.heap.size = b4 := by omega
    have n5' : ¬ wr.heap.size = b5 := by omega
    by_cases hjn : j < n
    · have hAw := hA.out.below RPt.stable hbw.out
      obtain ⟨b', o', hbo, hbb, hc⟩ := hAw.ptr hn
      cases hbo
      obtain ⟨e, he⟩ := hAw.get hjn
      obtain ⟨d0, d1⟩ := hc j e he
      have hnx := Lib.hid (show ptA ps j = e by simp [ptA, he])
      have hjI : (j : Int) < (n : Int) := by omega
      have hj0 : (0 : Int) ≤ (j : Int) := by omega
      have hbs' : b ≤ wr.heap.size := by omega
      have hx := Lib.hid (show bxN ps (j + 1) = ⟨mn (bxN ps j).lx e.x, mn (bxN ps j).ly e.y, mx (bxN ps j).hx e.x, mx (bxN ps j).hy e.y⟩ by simp only [bxN]; rw [hnx.out])
      obtain ⟨m1, hm1⟩ : ∃ v, (if e.x < (bxN ps j).lx then e.x else (bxN ps j).lx) = v := ⟨_, rfl⟩
      obtain ⟨m2, hm2⟩ : ∃ v, (if e.y < (bxN ps j).ly then e.y else (bxN ps j).ly) = v := ⟨_, rfl⟩
      obtain ⟨m3, hm3⟩ : ∃ v, (if (bxN ps j).hx < e.x then e.x else (bxN ps j).hx) = v := ⟨_, rfl⟩
      obtain ⟨m4, hm4⟩ : ∃ v, (if (bxN ps j).hy < e.y then e.y else (bxN ps j).hy) = v := ⟨_, rfl⟩
      have hx2 := Lib.hid (show bxN ps (j + 1) = ⟨m1, m2, m3, m4⟩ by rw [hx.out, ← hm1, ← hm2, ← hm3, ← hm4]; rfl)
      have hn1 : min (bxN ps j).lx e.x = m1 := by rw [← hm1]; split <;> omega
      have hn2 : min (bxN ps j).ly e.y = m2 := by rw [← hm2]; split <;> omega
      have hn3 : max (bxN ps j).hx e.x = m3 := by rw [← hm3]; split <;> omega
      have hn4 : max (bxN ps j).hy e.y = m4 := by rw [← hm4]; split <;> omega
      clear hc he hAw hx
      go_wp2
      go_roundg (n - (j + 1))
      case measure => omega
      case rel =>
        have z2 : w.heap.size ≠ b4 := by omega
        have z3 : w.heap.size ≠ b5 := by omega
        have z4 : w.heap.size + 1 ≠ b4 := by omega
        have z5 : w.heap.size + 1 ≠ b5 := by omega
        have z6 : w.heap.size ≤ b4 := by omega
        have z7 : w.heap.size ≤ b5 := by omega
        exact ⟨j + 1, by omega, by go_num, Lib.hid (((((hbw.out.setCell (p := ⟨b4, 0, none⟩) z6 _).setCell (p := ⟨b4, 1, none⟩) z6 _).setCell (p := ⟨b5, 0, none⟩) z7 _).setCell (p := ⟨b5, 1, none⟩) z7 _).alloc (by simp only [World.size_setCell]; omega) _),
          Lib.hid (((hq2.out.far2 z2 _ _).far2 z3 _ _).al _), Lib.hid (((hq3.out.far2 z4 _ _).far2 z5 _ _).al _), Lib.hid (by rw [hx2.out]; exact ⟨((hq.out.1.put _ _).far2 ne45 _ _).al _, ((hq.out.2.far2 (fun e => ne45 e.symm) _ _).put _ _).al _⟩)⟩
    · obtain rfl : j = n := by omega
      go_wp2_with fail
      have hJc : ∀ W, Js (fun x => x ≠ w.heap.size ∧ x ≠ w.heap.size + 1) wr.drew W → ∀ o', W.cell? ⟨b4, o', none⟩ = wr.cell? ⟨b4, o', none⟩ ∧ W.cell? ⟨b5, o', none⟩ = wr.cell? ⟨b5, o', none⟩ := fun W hW o' =>
        ⟨hW.cell o' ⟨by omega, by omega⟩ (by exact a4), hW.cell o' ⟨by omega, by omega⟩ (by exact c4)⟩
      refine wp_region_ordJ [(0, .p), (1, .p), (2, .b), (3, .b)] (by kernel_rfl) (by kernel_rfl) (Js (fun x => x ≠ w.heap.size ∧ x ≠ w.heap.size + 1) wr.drew) (Js.refl _ _) ?_
      simp only [pick, List.filterMap_cons, List.filterMap_nil, List.getElem?_toArray, List.getElem?_cons_zero, List.getElem?_cons_succ, Option.map_some]
      have e0' := hq2.out.c0
      have e1' := hq2.out.c1
      have e2' := hq2.out.f0
      have e3' := hq2.out.f1
      have e4' := hq3.out.c0
      have e5' := hq3.out.c1
      have e6' := hq3.out.f0
      have e7' := hq3.out.f1
      repeat (with_reducible refine wpDJ_pv rfl (fun K hK => ?_); apply Exists.intro; apply And.intro; (focus (intro W hW; have hc := hJc W hW; go_simp; (first | done | rfl | exact ⟨rfl, rfl⟩))); go_simp; refine hK _ ?_; clear hK K)
      clear hJc
      with_reducible refine wpDJ_b (fun K hK => ?_)
      go_simp
      refine ⟨((Js.refl _ wr.drew).set (p := w.heap.size) (fun b' hs _ => hs.1) _).set (p := w.heap.size) (fun b' hs _ => hs.1) _, hK _ _ ?_⟩
      clear hK K
      with_reducible refine wpDJ_b (fun K hK => ?_)
      go_simp
      refine ⟨((((Js.refl _ wr.drew).set (p := w.heap.size) (fun b' hs _ => hs.1) _).set (p := w.heap.size) (fun b' hs _ => hs.1) _).set (p := w.heap.size + 1) (fun b' hs _ => hs.2) _).set (p := w.heap.size + 1) (fun b' hs _ => hs.2) _, hK _ _ ?_⟩
      clear hK K
      with_reducible refine wpDJ_nil ?_
      go_wp2
      refine bodyPost_ret (v := .tuple #[.agg #[.int .i64 (bxN ps j).lx, .int .i64 (bxN ps j).ly], .agg #[.int .i64 (bxN ps j).hx, .int .i64 (bxN ps j).hy]]) (by simp only [results, Try.results85]; go_simp) rfl ?_
      exact ⟨rfl, (((hbw.out.drew.setCell (p := ⟨w.heap.size, 0, none⟩) (Nat.le_refl _) _).setCell (p := ⟨w.heap.size, 1, none⟩) (Nat.le_refl _) _).setCell (p := ⟨w.heap.size + 1, 0, none⟩) (Nat.le_succ _) _).setCell (p := ⟨w.heap.size + 1, 1, none⟩) (Nat.le_succ _) _⟩
end Go.Proofs.Ytpnahobgmemdjaa
