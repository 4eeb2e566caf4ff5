import Derived.Test.YtkppijcjmhkkkaaGBG
import Derived.Test.YtkppijcjmhkkkaaGAO
import Derived.Test.YtkppijcjmhkkkaaGBF
import Derived.Test.YtkppijcjmhkkkaaGAQ
import Derived.Test.YtkppijcjmhkkkaaGAK
import Derived.Test.YtkppijcjmhkkkaaGAT
set_option linter.unusedSimpArgs false
set_option linter.unusedVariables false
/- Walks: the least rectangle of points, the program. -/


namespace Go.Proofs.Ytkppijcjmhkkkaa
open Go.RowKit
attribute [local go_sem] BelowBy.cell BelowBy.cell_drew stillUpon givesUpon

theorem Js.mv {S : Nat → Prop} {W0 w W : World} {z : Obj} {st st' : Option Nat} (h : Js S W0 w) (hm : Mv z st w st' W) : Js S W0 W := by
  rcases hm with ⟨_, rfl⟩ | ⟨_, _, rfl⟩
  · exact h
  · exact h.al z
set_option maxRecDepth 100000 in
set_option maxHeartbeats 4000000 in
theorem bounds_any {A : Option Addr} {n c : Nat} {ps : List Pt} {w : World} (h : RdSl 2 RPt w A n ps) (hn : 0 < n) (hm : n ≤ 100000) :
    Calls Try.prog 53 #[.slice A n c] w fun e w' => e = .returned (.tuple #[.agg #[.int .i64 (bxN ps n).lx, .int .i64 (bxN ps n).ly], .agg #[.int .i64 (bxN ps n).hx, .int .i64 (bxN ps n).hy]]) ∧ Below w.heap.size w w' := by
  have hA := Lib.hid h
  obtain ⟨b, o, rfl, hb, hc⟩ := h.ptr hn
  obtain ⟨e0, he0⟩ := h.get hn
  obtain ⟨d0, d1⟩ := hc 0 e0 he0
  simp only [Nat.zero_mul, Nat.add_zero] at d0 d1
  have hb0 := Lib.hid (show bxN ps 0 = ⟨e0.x, e0.y, e0.x, e0.y⟩ by simp [bxN, ptA, he0])
  have hnI : (0 : Int) < (n : Int) := by omega
  have hbs : b ≤ w.heap.size := by omega
  clear h hc he0
  go_enter Try.func53, Try.ntmps53
  go_wp2_with fail
  obtain ⟨W0, hW0⟩ : ∃ W0, ((w.alloc (.cells #[.int .i64 0, .int .i64 0] 49)).alloc (.cells #[.int .i64 0, .int .i64 0] 49)).drew = W0 := ⟨_, rfl⟩
  have k0 := Lib.hid (show Below w.heap.size w W0 by rw [← hW0]; exact bl_dr (bl_al (bl_al (bl_refl _) _) _))
  have x0 : W0.cell? ⟨b, o, none⟩ = some (.int .i64 e0.x) := (k0.out.cell (p := ⟨b, o, none⟩) hb).trans d0
  have x1 : W0.cell? ⟨b, o + 1, none⟩ = some (.int .i64 e0.y) := (k0.out.cell (p := ⟨b, o + 1, none⟩) hb).trans d1
  have p2 : PtB W0 w.heap.size 0 0 := by rw [← hW0]; exact ((PtB.new w 0 0).al _).dr
  have p3 : PtB W0 (w.heap.size + 1) 0 0 := by
    rw [← hW0]
    have := PtB.new (w.alloc (.cells #[.int .i64 0, .int .i64 0] 49)) 0 0
    simp only [World.size_alloc] at this
    exact this.dr
  have s0 : W0.heap.size = w.heap.size + 2 := by rw [← hW0]; simp
  have hbW : b < W0.heap.size := by omega
  have hJc : ∀ W, Js (fun _ => True) W0 W → ∀ o', W.cell? ⟨b, o', none⟩ = W0.cell? ⟨b, o', none⟩ := fun W hW o' => hW.cell o' trivial hbW
  refine wp_region_flJ 7 [(0, .p), (1, .p), (2, .p), (3, .p), (4, .p), (5, .p), (6, .g)] [(8, .b), (9, .b)] _ (Obj.cells #[.int .i64 0, .int .i64 0] 49) (by kernel_rfl) (by kernel_rfl) (by kernel_rfl) (by kernel_rfl) rfl (fun a w => ⟨rfl, by unfold flPtr; go_simp⟩) (Js (fun _ => True) W0) (by rw [hW0]; exact Js.refl _ _) (fun W h => h.al _) ?_
  simp only [pick, List.filterMap_cons, List.filterMap_nil, List.getElem?_toArray, List.getElem?_cons_zero, List.getElem?_cons_succ, Option.map_some]
  rw [hW0]
  repeat (with_reducible refine wpLJ_pv rfl (fun K hK => ?_); apply Exists.intro; apply And.intro; (focus (intro W hW; have hc := hJc W hW; go_simp; (first | done | rfl | exact ⟨rfl, rfl⟩))); go_simp; refine hK _ ?_; clear hK K)
  with_reducible refine wpLJ_g rfl (fun K hK st4 u4 mv4 => ?_)
  go_simp
  refine ⟨((Js.refl _ _).mv mv4).al _, Grew.of_alloc _, hK _ _ _ ?_⟩
  clear hK K
  with_reducible refine wpLJ_nil (fun b5 w5 mvF => ?_)
  have hu4 := mv4.below
  have huF := mvF.below
  have fu4 := (FlAt.none (Obj.cells #[.int .i64 0, .int .i64 0] 49) W0).mv mv4
  obtain ⟨fl5, fb5⟩ := ((fu4.below ((Below.refl _ _).alloc (Nat.le_refl _) (Obj.cells #[.int .i64 0, .int .i64 0] 49))).mv mvF).2 _ rfl
  have q5 : PtB w5 b5 0 0 := PtB.ofHeap fb5
  have q4 : PtB w5 u4.heap.size 0 0 := (PtB.new u4 0 0).below huF
  have s4 : W0.heap.size ≤ u4.heap.size := hu4.size
  have k5 := Lib.hid (show Below W0.heap.size W0 w5 from hu4.trans (((Below.refl _ u4).alloc (Nat.le_refl _) (Obj.cells #[.int .i64 0, .int .i64 0] 49)).mono s4 |>.trans (huF.mono (by simp only [World.size_alloc]; omega))))
  have ne45 : u4.heap.size ≠ b5 := by
    rcases mv4 with ⟨e, rfl⟩ | ⟨_, e, rfl⟩
    · rcases mvF with ⟨e2, _⟩ | ⟨_, e2, _⟩
      · rw [e] at e2; cases e2
      · injection e2 with e2; rw [e2]; simp
    · rcases mvF with ⟨e2, _⟩ | ⟨e2, _, _⟩
      · rw [e] at e2; injection e2 with e2; rw [e2]; simp
      · rw [e] at e2; cases e2
  obtain ⟨b4, hb4⟩ : ∃ b4, u4.heap.size = b4 := ⟨_, rfl⟩
  rw [hb4] at q4 s4 ne45 ⊢
  clear mv4 mvF hu4 huF fu4 fb5 hb4
  have q5H := Lib.hid q5
  have q4H := Lib.hid q4
  have hJ5 := Lib.hid (show Js (fun _ => True) W0 w5 from ⟨k5.out.size, fun b' _ hb' => k5.out.block b' hb'⟩)
  have r0 := q4.c0
  have r1 := q4.c1
  have r2 := q4.f0
  have r3 := q4.f1
  have r4 := q5.c0
  have r5 := q5.c1
  have r6 := q5.f0
  have r7 := q5.f1
  have ne45' : ¬ b4 = b5 := ne45
  have ne54' : ¬ b5 = b4 := fun e => ne45 e.symm
  clear q4 q5
  simp only [flPtr]
  with_reducible refine wpDJ_b (fun K hK => ?_)
  go_simp
  refine ⟨(hJ5.out.set (fun b' _ hb' => by omega) _).set (fun b' _ hb' => by omega) _, hK _ _ ?_⟩
  clear hK K
  with_reducible refine wpDJ_b (fun K hK => ?_)
  go_simp
  refine ⟨(((hJ5.out.set (fun b' _ hb' => by omega) _).set (fun b' _ hb' => by omega) _).set (fun b' _ hb' => by omega) _).set (fun b' _ hb' => by omega) _, hK _ _ ?_⟩
  clear hK K
  with_reducible refine wpDJ_nil ?_
  have q4 : PtB ((((w5.setCell ⟨b4, 0, none⟩ (.int .i64 e0.x)).setCell ⟨b4, 1, none⟩ (.int .i64 e0.y)).setCell ⟨b5, 0, none⟩ (.int .i64 e0.x)).setCell ⟨b5, 1, none⟩ (.int .i64 e0.y)) b4 e0.x e0.y := (q4H.out.put _ _).far2 ne45 _ _
  have q5 : PtB ((((w5.setCell ⟨b4, 0, none⟩ (.int .i64 e0.x)).setCell ⟨b4, 1, none⟩ (.int .i64 e0.y)).setCell ⟨b5, 0, none⟩ (.int .i64 e0.x)).setCell ⟨b5, 1, none⟩ (.int .i64 e0.y)) b5 e0.x e0.y := (q5H.out.far2 (fun e => ne45 e.symm) _ _).put _ _
  have k6 : Below W0.heap.size W0 ((((w5.setCell ⟨b4, 0, none⟩ (.int .i64 e0.x)).setCell ⟨b4, 1, none⟩ (.int .i64 e0.y)).setCell ⟨b5, 0, none⟩ (.int .i64 e0.x)).setCell ⟨b5, 1, none⟩ (.int .i64 e0.y)) :=
    (((k5.out.setCell (p := ⟨b4, 0, none⟩) s4 _).setCell (p := ⟨b4, 1, none⟩) s4 _).setCell (p := ⟨b5, 0, none⟩) fl5 _).setCell (p := ⟨b5, 1, none⟩) fl5 _
  generalize ((((w5.setCell ⟨b4, 0, none⟩ (.int .i64 e0.x)).setCell ⟨b4, 1, none⟩ (.int .i64 e0.y)).setCell ⟨b5, 0, none⟩ (.int .i64 e0.x)).setCell ⟨b5, 1, none⟩ (.int .i64 e0.y)) = w6 at q4 q5 k6 ⊢
  have q2 := p2.below k6
  have q3 := p3.below k6
  have k6H := Lib.hid (show Below w.heap.size w w6 from k0.out.trans (k6.mono (by omega)))
  have start := Lib.hid (show PtB w6 b4 (bxN ps 0).lx (bxN ps 0).ly ∧ PtB w6 b5 (bxN ps 0).hx (bxN ps 0).hy by rw [hb0.out]; exact ⟨q4, q5⟩)
  have q2H := Lib.hid q2
  have q3H := Lib.hid q3
  clear r0 r1 r2 r3 r4 r5 r6 r7 q2 q3 q4 q5 k6 x0 x1 p2 p3 hJc d0 d1 hb0 q4H q5H hJ5 k5
  go_wp2
  go_loopg [16] n (fun g i wr => ∃ j : Nat, j + g = n ∧ i = .int .i64 (j : Int) ∧ Hid (Below w.heap.size w wr) ∧ Hid (PtB wr w.heap.size 0 0) ∧ Hid (PtB wr (w.heap.size + 1) 0 0) ∧ Hid (PtB wr b4 (bxN ps j).lx (bxN ps j).ly ∧ PtB wr b5 (bxN ps j).hx (bxN ps j).hy))
  case atStart => exact ⟨0, by omega, rfl, k6H, q2H, q3H, start⟩
  case round =>
    obtain ⟨j, hj, rfl, hbw, hq2, hq3, hq⟩ := hrel
    have a0 := hq.out.1.c0
    have a1 := hq.out.1.c1
    have a2 := hq.out.1.f0
    have a3 := hq.out.1.f1
    have a4 := hq.out.1.lt
    have c0 := hq.out.2.c0
    have c1 := hq.out.2.c1
    have c2 := hq.out.2.f0
    have c3 := hq.out.2.f1
    have c4 := hq.out.2.lt
    have n4 : ¬ b4 = wr.heap.size := by omega
    have n5 : ¬ b5 = wr.heap.size := by omega
    have n4' : ¬ wr.heap.size = b4 := by omega
    have n5' : ¬ wr.heap.size = b5 := by omega
    by_cases hjn : j < n
    · have hAw := hA.out.below RPt.stable hbw.out
      obtain ⟨b', o', hbo, hbb, hc⟩ := hAw.ptr hn
      cases hbo
      obtain ⟨e, he⟩ := hAw.get hjn
      obtain ⟨d0, d1⟩ := hc j e he
      have hnx := Lib.hid (show ptA ps j = e by simp [ptA, he])
      have hjI : (j : Int) < (n : Int) := by omega
      have hj0 : (0 : Int) ≤ (j : Int) := by omega
      have hbs' : b ≤ wr.heap.size := by omega
      have hx := Lib.hid (show bxN ps (j + 1) = ⟨mn (bxN ps j).lx e.x, mn (bxN ps j).ly e.y, mx (bxN ps j).hx e.x, mx (bxN ps j).hy e.y⟩ by simp only [bxN]; rw [hnx.out])
      obtain ⟨m1, hm1⟩ : ∃ v, (if e.x < (bxN ps j).lx then e.x else (bxN ps j).lx) = v := ⟨_, rfl⟩
      obtain ⟨m2, hm2⟩ : ∃ v, (if e.y < (bxN ps j).ly then e.y else (bxN ps j).ly) = v := ⟨_, rfl⟩
      obtain ⟨m3, hm3⟩ : ∃ v, (if (bxN ps j).hx < e.x then e.x else (bxN ps j).hx) = v := ⟨_, rfl⟩
      obtain ⟨m4, hm4⟩ : ∃ v, (if (bxN ps j).hy < e.y then e.y else (bxN ps j).hy) = v := ⟨_, rfl⟩
      have hx2 := Lib.hid (show bxN ps (j + 1) = ⟨m1, m2, m3, m4⟩ by rw [hx.out, ← hm1, ← hm2, ← hm3, ← hm4]; rfl)
      have hn1 : min (bxN ps j).lx e.x = m1 := by rw [← hm1]; split <;> omega
      have hn2 : min (bxN ps j).ly e.y = m2 := by rw [← hm2]; split <;> omega
      have hn3 : max (bxN ps j).hx e.x = m3 := by rw [← hm3]; split <;> omega
      have hn4 : max (bxN ps j).hy e.y = m4 := by rw [← hm4]; split <;> omega
      clear hc he hAw hx
      go_wp2
      go_roundg (n - (j + 1))
      case measure => omega
      case rel =>
        have z2 : w.heap.size ≠ b4 := by omega
        have z3 : w.heap.size ≠ b5 := by omega
        have z4 : w.heap.size + 1 ≠ b4 := by omega
        have z5 : w.heap.size + 1 ≠ b5 := by omega
        have z6 : w.heap.size ≤ b4 := by omega
        have z7 : w.heap.size ≤ b5 := by omega
        exact ⟨j + 1, by omega, by go_num, Lib.hid (((((hbw.out.setCell (p := ⟨b4, 0, none⟩) z6 _).setCell (p := ⟨b4, 1, none⟩) z6 _).setCell (p := ⟨b5, 0, none⟩) z7 _).setCell (p := ⟨b5, 1, none⟩) z7 _).alloc (by simp only [World.size_setCell]; omega) _),
          Lib.hid (((hq2.out.far2 z2 _ _).far2 z3 _ _).al _), Lib.hid (((hq3.out.far2 z4 _ _).far2 z5 _ _).al _), Lib.hid (by rw [hx2.out]; exact ⟨((hq.out.1.put _ _).far2 ne45 _ _).al _, ((hq.out.2.far2 (fun e => ne45 e.symm) _ _).put _ _).al _⟩)⟩
    · obtain rfl : j = n := by omega
      go_wp2_with fail
      have hJc : ∀ W, Js (fun x => x ≠ w.heap.size ∧ x ≠ w.heap.size + 1) wr.drew W → ∀ o', W.cell? ⟨b4, o', none⟩ = wr.cell? ⟨b4, o', none⟩ ∧ W.cell? ⟨b5, o', none⟩ = wr.cell? ⟨b5, o', none⟩ := fun W hW o' =>
        ⟨hW.cell o' ⟨by omega, by omega⟩ (by exact a4), hW.cell o' ⟨by omega, by omega⟩ (by exact c4)⟩
      refine wp_region_ordJ [(0, .p), (1, .p), (2, .b), (3, .b)] (by kernel_rfl) (by kernel_rfl) (Js (fun x => x ≠ w.heap.size ∧ x ≠ w.heap.size + 1) wr.drew) (Js.refl _ _) ?_
      simp only [pick, List.filterMap_cons, List.filterMap_nil, List.getElem?_toArray, List.getElem?_cons_zero, List.getElem?_cons_succ, Option.map_some]
      have e0' := hq2.out.c0
      have e1' := hq2.out.c1
      have e2' := hq2.out.f0
      have e3' := hq2.out.f1
      have e4' := hq3.out.c0
      have e5' := hq3.out.c1
      have e6' := hq3.out.f0
      have e7' := hq3.out.f1
      repeat (with_reducible refine wpDJ_pv rfl (fun K hK => ?_); apply Exists.intro; apply And.intro; (focus (intro W hW; have hc := hJc W hW; go_simp; (first | done | rfl | exact ⟨rfl, rfl⟩))); go_simp; refine hK _ ?_; clear hK K)
      clear hJc
      with_reducible refine wpDJ_b (fun K hK => ?_)
      go_simp
      refine ⟨((Js.refl _ wr.drew).set (p := w.heap.size) (fun b' hs _ => hs.1) _).set (p := w.heap.size) (fun b' hs _ => hs.1) _, hK _ _ ?_⟩
      clear hK K
      with_reducible refine wpDJ_b (fun K hK => ?_)
      go_simp
      refine ⟨((((Js.refl _ wr.drew).set (p := w.heap.size) (fun b' hs _ => hs.1) _).set (p := w.heap.size) (fun b' hs _ => hs.1) _).set (p := w.heap.size + 1) (fun b' hs _ => hs.2) _).set (p := w.heap.size + 1) (fun b' hs _ => hs.2) _, hK _ _ ?_⟩
      clear hK K
      with_reducible refine wpDJ_nil ?_
      go_wp2
      refine bodyPost_ret (v := .tuple #[.agg #[.int .i64 (bxN ps j).lx, .int .i64 (bxN ps j).ly], .agg #[.int .i64 (bxN ps j).hx, .int .i64 (bxN ps j).hy]]) (by simp only [results, Try.results53]; go_simp) rfl ?_
      exact ⟨rfl, (((hbw.out.drew.setCell (p := ⟨w.heap.size, 0, none⟩) (Nat.le_refl _) _).setCell (p := ⟨w.heap.size, 1, none⟩) (Nat.le_refl _) _).setCell (p := ⟨w.heap.size + 1, 0, none⟩) (Nat.le_succ _) _).setCell (p := ⟨w.heap.size + 1, 1, none⟩) (Nat.le_succ _) _⟩
end Go.Proofs.Ytkppijcjmhkkkaa
/- Walks: the holes of a shape, the program. -/







namespace Go.Proofs.Ytkppijcjmhkkkaa
open Go.RowKit Go.Shelf
attribute [local go_sem] BelowBy.cell BelowBy.cell_drew stillUpon givesUpon

theorem RdSl.gb {g : Nat} {w W : World} {A : Option Addr} {n : Nat} {ps : List Pt} (h : RdSl 2 RPt w A n ps) (hA : 0 < n → ∀ b o, A = some ⟨b, o, none⟩ → b ≠ g) (hb : Gb g w W) : RdSl 2 RPt W A n ps :=
  ⟨h.len, fun hn => by
    obtain ⟨b, o, e, hlt, hc⟩ := h.cells hn
    exact ⟨b, o, e, Nat.lt_of_lt_of_le hlt hb.size, fun k hk => ⟨(hb.cell (o := o + k * 2) hlt (hA hn b o e)).trans (hc k hk).1, (hb.cell (o := o + k * 2 + 1) hlt (hA hn b o e)).trans (hc k hk).2⟩⟩⟩
theorem RdSl.lt_base {w : World} {A : Option Addr} {n : Nat} {ps : List Pt} (h : RdSl 2 RPt w A n ps) (hn : 0 < n) : ∀ b o, A = some ⟨b, o, none⟩ → b < w.heap.size := fun b o e => by
  obtain ⟨b', o', e', hlt, _⟩ := h.cells hn
  rw [e] at e'
  injection e' with e'
  injection e' with e'
  omega
theorem keepG_filter {α : Type} (del : α → Bool) (bs : List α) : keepG del bs bs.length = bs.filter fun b => !del b := by
  unfold keepG; rw [List.take_length]
/-- the first closure: is a point in the shape -/
theorem holes1_any {p n c : Nat} {A : Option Addr} {ps : List Pt} {x y : Int} {w : World} (hp : w.cell? ⟨p, 0, none⟩ = some (.slice A n c)) (hlt : p < w.heap.size) (h : RdSl 2 RPt w A n ps) (hS : Shp ps) (hn : n ≤ 100000) :
    Calls Try.prog 56 #[.agg #[.int .i64 x, .int .i64 y], .pointer (some ⟨p, 0, none⟩)] w fun e w' => e = .returned (.bool (decide ((⟨x, y⟩ : Pt) ∈ ps))) ∧ Below w.heap.size w w' := by
  have hH := Lib.hid h
  have hSH := Lib.hid hS
  have hpl := Nat.le_of_lt hlt
  obtain ⟨r, hr⟩ : ∃ r, decide ((⟨x, y⟩ : Pt) ∈ ps) = r := ⟨_, rfl⟩
  rw [hr]
  have hrH := Lib.hid hr
  clear h hS hr
  go_enter Try.func56, Try.ntmps56
  go_wp2_with fail
  refine (isIn_at (hH.out.below RPt.stable (by exact bel_)) hSH.out.sortedS hn hrH.out).mono ?_
  rintro e w1 ⟨rfl, hb1⟩
  go_wp2
  go_ret
  exact ⟨rfl, by exact bel_⟩
/-- the innermost closure: is a point on the edge -/
theorem holes21_any {lo hi : Nat} {x y lx ly hx hy : Int} {w : World} (c0 : w.cell? ⟨lo, 0, none⟩ = some (.int .i64 lx)) (c1 : w.cell? ⟨lo, 1, none⟩ = some (.int .i64 ly)) (d0 : w.cell? ⟨hi, 0, none⟩ = some (.int .i64 hx)) (d1 : w.cell? ⟨hi, 1, none⟩ = some (.int .i64 hy)) (hlo : lo < w.heap.size) (hhi : hi < w.heap.size) :
    Calls Try.prog 61 #[.agg #[.int .i64 x, .int .i64 y], .pointer (some ⟨lo, 0, none⟩), .pointer (some ⟨hi, 0, none⟩)] w fun e w' => e = .returned (.bool (x == lx || x == hx || y == ly || y == hy)) ∧ Below w.heap.size w w' := by
  have hl1 := Nat.le_of_lt hlo
  have hl2 := Nat.le_of_lt hhi
  cases h1 : (x == lx)
  · cases h2 : (x == hx)
    · cases h3 : (y == ly)
      · cases h4 : (y == hy)
        all_goals
          go_enter Try.func61, Try.ntmps61
          go_wp2
          go_ret
          exact ⟨rfl, bl_al (bl_refl _) _⟩
      · go_enter Try.func61, Try.ntmps61
        go_wp2
        go_ret
        exact ⟨rfl, bl_al (bl_refl _) _⟩
    · go_enter Try.func61, Try.ntmps61
      go_wp2
      go_ret
      exact ⟨rfl, bl_al (bl_refl _) _⟩
  · go_enter Try.func61, Try.ntmps61
    go_wp2
    go_ret
    exact ⟨rfl, bl_al (bl_refl _) _⟩
set_option maxHeartbeats 1000000 in
theorem ContainsFuncG_any (g : Nat) (f : FuncId) (caps : Array Value) (eg : ∀ args w, (callFunc f args).run Try.prog w = .ok (.enter f args) w) (del : Pt → Bool) (A : Option Addr) (n c : Nat) (bs : List Pt) (w : World) (hB : RdSl 2 RPt w A n bs) (hn : n ≤ 100000) (hC : TellsP g w f caps del bs) :
    Calls Try.prog 60 #[.slice A n c, .func (.func f) #[] caps] w fun e w' => e = .returned (.bool (bs.any del)) ∧ Below w.heap.size w w' := by
  have hBH := Lib.hid hB
  have hCH := Lib.hid hC
  have hl := Lib.hid hB.len
  clear hB hC
  go_enter Try.func60, Try.ntmps60
  go_wp2_with fail
  refine (IndexFuncG_any g f caps eg del A n c bs _ hBH.out hn hCH.out).mono ?_
  rintro e w1 ⟨(⟨rfl, hall⟩ | ⟨k, hkn, rfl, hdk, hall⟩), hb1⟩
  · have hr := Lib.hid (show bs.any del = false by
      rw [List.any_eq_false]
      intro x hx
      obtain ⟨j, hj⟩ := List.mem_iff_getElem?.1 hx
      have := hall j (by rw [← hl.out]; exact lt_of_get hj)
      rw [delAtG_eq hj] at this
      rw [this]; decide)
    have hb1H := Lib.hid hb1
    clear hall hb1
    go_wp2
    go_ret
    exact ⟨ret_bool hr.out.symm, hb1H.out⟩
  · have hr := Lib.hid (show bs.any del = true by
      rw [List.any_eq_true]
      obtain ⟨e, he⟩ : ∃ e, bs[k]? = some e := ⟨_, List.getElem?_eq_getElem (by rw [hl.out]; exact hkn)⟩
      rw [delAtG_eq he] at hdk
      exact ⟨e, List.mem_of_getElem? he, hdk⟩)
    have hb1H := Lib.hid hb1
    have hk0 : (0 : Int) ≤ (k : Int) := by omega
    clear hall hb1 hdk
    go_wp2
    go_ret
    exact ⟨ret_bool hr.out.symm, hb1H.out⟩
theorem enters_holes1 : ∀ args w, (callFunc 56 args).run Try.prog w = .ok (.enter 56 args) w := enters_of Try.func56 (by kernel_rfl) rfl
theorem enters_holes2 : ∀ args w, (callFunc 59 args).run Try.prog w = .ok (.enter 59 args) w := enters_of Try.func59 (by kernel_rfl) rfl
theorem enters_holes21 : ∀ args w, (callFunc 61 args).run Try.prog w = .ok (.enter 61 args) w := enters_of Try.func61 (by kernel_rfl) rfl
/-- the second closure: has a part a point on the edge -/
theorem holes2_any {lo hi m c : Nat} {A : Option Addr} {l : List Pt} {ps : List Pt} {w : World} (c0 : w.cell? ⟨lo, 0, none⟩ = some (.int .i64 (boxB ps).lx)) (c1 : w.cell? ⟨lo, 1, none⟩ = some (.int .i64 (boxB ps).ly)) (d0 : w.cell? ⟨hi, 0, none⟩ = some (.int .i64 (boxB ps).hx)) (d1 : w.cell? ⟨hi, 1, none⟩ = some (.int .i64 (boxB ps).hy)) (hlo : lo < w.heap.size) (hhi : hi < w.heap.size) (h : RdSl 2 RPt w A m l) (hm : m ≤ 100000) :
    Calls Try.prog 59 #[.slice A m c, .pointer (some ⟨lo, 0, none⟩), .pointer (some ⟨hi, 0, none⟩)] w fun e w' => e = .returned (.bool (l.any (edgeB ps))) ∧ Below w.heap.size w w' := by
  have hH := Lib.hid h
  have hT : Hid (TellsP w.heap.size w 61 #[.pointer (some ⟨lo, 0, none⟩), .pointer (some ⟨hi, 0, none⟩)] (edgeB ps) l) := Lib.hid fun W e hW _ =>
    holes21_any ((hW.cell (o := 0) hlo (by omega)).trans c0) ((hW.cell (o := 1) hlo (by omega)).trans c1) ((hW.cell (o := 0) hhi (by omega)).trans d0) ((hW.cell (o := 1) hhi (by omega)).trans d1) (Nat.lt_of_lt_of_le hlo hW.size) (Nat.lt_of_lt_of_le hhi hW.size)
  clear h c0 c1 d0 d1
  go_enter Try.func59, Try.ntmps59
  go_wp2_with fail
  refine (ContainsFuncG_any w.heap.size _ _ enters_holes21 (edgeB ps) A m c l _ hH.out hm hT.out).mono ?_
  rintro e w1 ⟨rfl, hb1⟩
  go_wp2
  go_ret
  exact ⟨rfl, hb1⟩
/-- rows of points that the call has made -/
def RowsR (w : World) (P : List (List Pt)) (e : Ending) (w' : World) : Prop :=
  ∃ A c us, e = .returned (.slice A P.length c) ∧ Own2 w' w.heap.size 24 49 2 (.slice A P.length c) us (P.map ptCells) ∧ Below w.heap.size w w'
set_option maxRecDepth 100000 in
set_option maxHeartbeats 4000000 in
theorem holes_any (A : Option Addr) (n c : Nat) (ps : List Pt) (w : World) (h : RdSl 2 RPt w A n ps) (hS : Shp ps) (hn0 : 0 < n) (hn : n ≤ 100000) :
    Calls Try.prog 35 #[.slice A n c] w (RowsR w (holesB ps)) := by
  have hl := Lib.hid h.len
  have hH := Lib.hid h
  have hSH := Lib.hid hS
  have hn0' : 0 < ps.length := by rw [hl.out]; exact hn0
  have hbx : bxN ps n = boxB ps := by unfold boxB; rw [hl.out]
  obtain ⟨w1', w2', w3', w4', w5', w6'⟩ := wdB_eq hS hn0'
  have hrng := boxB_rng hS hn0'
  have hrl := rectB_len hS hn0'
  have hrlH := Lib.hid hrl
  have hfl := Lib.hid (freeB_len hS hn0')
  have hbxH := Lib.hid hbx
  have hA0 := Lib.hid (h.lt_base hn0)
  have hn0H := Lib.hid hn0'
  clear h hS hbx hrl hn0'
  go_enter Try.func35, Try.ntmps35
  go_wp2_with fail
  refine (bounds_any (hH.out.below RPt.stable (by exact bel_)) hn0 hn).mono ?_
  rw [hbxH.out]
  rintro e w1 ⟨rfl, hb1⟩
  have a0 : w1.cell? ⟨w.heap.size, 0, none⟩ = some (.slice A n c) := (hb1.cell (p := ⟨w.heap.size, 0, none⟩) (by simp)).trans (by go_simp)
  have hs1 := hb1.size
  simp only [World.size_alloc] at hs1
  have hb1H := Lib.hid (show Below w.heap.size w w1 from (bl_al (bl_refl w) _).trans (hb1.mono (by simp)))
  clear hb1
  go_wp2_with fail
  refine (rectangle_any _ _ _ _ (wdB ps) (htB ps) _ w1' w2' (by omega) (by omega) (by omega) (by omega)).mono ?_
  rintro e w2 ⟨v2, rfl, hO2, hb2⟩
  have hs2 := hb2.size
  simp only [World.size_alloc] at hs2
  obtain ⟨g, cap, hv2⟩ : ∃ g cap, v2 = .slice (some ⟨g, 0, none⟩) (rectB ps).length cap := by
    rcases hO2.2 with ⟨_, h0⟩ | ⟨g, cap, cur, hv, _⟩
    · have := hrlH.out; omega
    · exact ⟨g, cap, by rw [hrlH.out.1]; exact hv⟩
  subst hv2
  have hO2' : w2.ownsRow (w1.heap.size + 1 + 1) 49 2 (.slice (some ⟨g, 0, none⟩) (rectB ps).length cap) (rectB ps).length (ptCells (rectB ps)) := by
    have := hO2
    simp only [World.size_alloc] at this
    rw [← hrlH.out.1] at this
    exact this
  have hgl := hO2'.lt g rfl
  have hlw : w.heap.size < w1.heap.size := by omega
  have hlw2 : w.heap.size < w1.heap.size + 1 := by omega
  have a1 := (hb2.cell (p := ⟨w.heap.size, 0, none⟩) (by simp; omega)).trans (show _ = some (Value.slice A n c) by go_simp)
  have l0 : w2.cell? ⟨w1.heap.size, 0, none⟩ = some (.int .i64 (boxB ps).lx) := (hb2.cell (p := ⟨w1.heap.size, 0, none⟩) (by simp; omega)).trans (by go_simp)
  have l1 : w2.cell? ⟨w1.heap.size, 1, none⟩ = some (.int .i64 (boxB ps).ly) := (hb2.cell (p := ⟨w1.heap.size, 1, none⟩) (by simp; omega)).trans (by go_simp)
  have u0 : w2.cell? ⟨w1.heap.size + 1, 0, none⟩ = some (.int .i64 (boxB ps).hx) := (hb2.cell (p := ⟨w1.heap.size + 1, 0, none⟩) (by simp)).trans (by go_simp)
  have u1 : w2.cell? ⟨w1.heap.size + 1, 1, none⟩ = some (.int .i64 (boxB ps).hy) := (hb2.cell (p := ⟨w1.heap.size + 1, 1, none⟩) (by simp)).trans (by go_simp)
  have hb2H : Hid (Below w.heap.size w w2) := Lib.hid (hb1H.out.trans (show Below w.heap.size w1 w2 from (((Below.refl _ w1).alloc (by omega) _).alloc (by simp; omega) _).trans (hb2.mono (by simp; omega))))
  have hT : Hid (TellsP g w2 56 #[.pointer (some ⟨w.heap.size, 0, none⟩)] (fun p => decide (p ∈ ps)) (rectB ps)) := Lib.hid fun W e hW _ =>
    holes1_any ((hW.cell (o := 0) (by omega) (by omega)).trans a1) (Nat.lt_of_lt_of_le (by omega) hW.size) ((hH.out.below RPt.stable hb2H.out).gb (fun _ b o e => by have := hA0.out b o e; omega) hW) hSH.out hn
  have hO2H := Lib.hid hO2'
  have hdl : Hid (keepG (fun p => decide (p ∈ ps)) (rectB ps) (rectB ps).length = freeB ps) := Lib.hid (keepG_filter _ _)
  clear hO2 hO2' hb2
  go_wp2_with fail
  refine (DeleteFuncG_any (w1.heap.size + 1 + 1) g cap _ _ enters_holes1 _ (rectB ps) _ hO2H.out (by have := hrlH.out; omega) hT.out).mono ?_
  rw [hdl.out]
  rintro e w3 ⟨c3, rfl, hO3, hg3⟩
  have hs3 := hg3.size
  have l0' := (hg3.cell (b := w1.heap.size) (o := 0) (by omega) (by omega)).trans l0
  have l1' := (hg3.cell (b := w1.heap.size) (o := 1) (by omega) (by omega)).trans l1
  have u0' := (hg3.cell (b := w1.heap.size + 1) (o := 0) (by omega) (by omega)).trans u0
  have u1' := (hg3.cell (b := w1.heap.size + 1) (o := 1) (by omega) (by omega)).trans u1
  have hb3H := Lib.hid (hb2H.out.trans (hg3.toBelow (base := w.heap.size) (by omega) (by omega)))
  have hrd := Lib.hid (rdPts hO3 rfl)
  have hfS := Lib.hid (freeB_shp hSH.out hn0H.out)
  have hPV := Lib.hid (partsV_parts hfS.out)
  clear hO3 hg3 hO2H hT a0 a1 l0 l1 u0 u1 hb1H hb2H
  go_wp2_with fail
  refine (connected_any _ (freeB ps).length c3 (freeB ps) _ hrd.out hfS.out (by have := hfl.out; omega)).mono ?_
  rw [hPV.out]
  rintro e w4 ⟨v4, us4, rfl, hO4, hb4⟩
  have hs4 := hb4.size
  obtain ⟨PS, hPS⟩ : ∃ PS, partsP (freeB ps) = PS := ⟨_, rfl⟩
  have hPl := partsP_len (freeB ps)
  rw [hPS] at hO4 hPl
  have hul : us4.length = PS.length := by rw [hO4.len, List.length_map]
  obtain ⟨A4, c4, rfl⟩ := hO4.form hul
  have l0 := (hb4.cell (p := ⟨w1.heap.size, 0, none⟩) (by simp; omega)).trans l0'
  have l1 := (hb4.cell (p := ⟨w1.heap.size, 1, none⟩) (by simp; omega)).trans l1'
  have u0 := (hb4.cell (p := ⟨w1.heap.size + 1, 0, none⟩) (by simp; omega)).trans u0'
  have u1 := (hb4.cell (p := ⟨w1.heap.size + 1, 1, none⟩) (by simp; omega)).trans u1'
  have hb4H := Lib.hid (hb3H.out.trans (hb4.mono hb3H.out.size))
  have hulH := Lib.hid hul
  have hO4H := Lib.hid hO4
  have hhB : Hid (holesB ps = PS.filter fun l => !(l.any (edgeB ps))) := Lib.hid (by unfold holesB; rw [hPS])
  have hPe : Hid (∀ l ∈ PS, l.length ≤ 14641) := Lib.hid (fun l hl => by
    rw [← hPS] at hl
    exact Nat.le_trans (partsP_mem hl).2 hfl.out)
  obtain ⟨N, hN⟩ : ∃ N, PS.length = N := ⟨_, rfl⟩
  have hNH := Lib.hid hN
  clear l0' l1' u0' u1' hb4 hPS hO4
  rw [hN] at hul hPl ⊢
  rw [hN] at hO4H
  clear hN
  by_cases hz : N = 0
  · subst hz
    have hP0 : PS = [] := List.eq_nil_of_length_eq_zero hNH.out
    go_wp2_with fail
    refine (DeleteFuncR_zero A4 c4 _ _).mono ?_
    rintro e _ ⟨rfl, rfl⟩
    go_wp2
    go_ret
    have hE : holesB ps = [] := by rw [hhB.out, hP0]; rfl
    rw [hE]
    have h1 := hO4H.out.rebase (base' := w.heap.size) (by have := hb3H.out.size; omega)
    rw [hP0] at h1
    exact ⟨A4, c4, us4, rfl, h1, hb4H.out⟩
  · obtain ⟨g4, cap4, hv⟩ := hO4H.out.formPos hul (by omega)
    injection hv with hv1 hv2 hv3
    subst hv1 hv3
    clear hv2
    have hg4 := hO4H.out.lt g4 rfl
    have hfst := Lib.hid (prsR_fst hulH.out)
    have hlp := Lib.hid ((prsR_len hulH.out).trans hNH.out)
    have hrow : w4.ownsRow w3.heap.size 24 1 (.slice (some ⟨g4, 0, none⟩) (prsR us4 PS).length c4) (prsR us4 PS).length ((prsR us4 PS).map (·.1)) := by
      rw [hfst.out, hlp.out]
      exact hO4H.out.outerN hul
    have hmem : ∀ e ∈ prsR us4 PS, ∃ (A : Option Addr) (m c : Nat), e.1 = Value.slice A m c ∧ RdSl 2 RPt w4 A m e.2 ∧ m ≤ 14641 ∧ (0 < m → ∀ b o, A = some ⟨b, o, none⟩ → b ≠ g4) := fun e he => by
      obtain ⟨i, hi⟩ := List.mem_iff_getElem?.1 he
      unfold prsR at hi
      rw [List.getElem?_zip_eq_some] at hi
      obtain ⟨m, r', hr', hown0⟩ := hO4H.out.get hi.1
      rw [List.getElem?_map, hi.2] at hr'
      simp only [Option.map_some, Option.some.injEq] at hr'
      subst hr'
      obtain ⟨Au, capu, hAu⟩ := ownsRow_form hown0
      rw [hAu] at hown0
      have hm := hown0.1
      rw [ptCells_len] at hm
      have hme : m = e.2.length := by omega
      subst hme
      refine ⟨Au, _, capu, hAu, rdPts hown0 rfl, hPe.out _ (List.mem_of_getElem? hi.2), fun _ b o hb => ?_⟩
      intro hbe
      subst hb hbe
      exact hO4H.out.off i _ b hi.1 (by rw [hAu]; rfl) rfl
    have hT : Hid (TellsR g4 w4 59 #[.pointer (some ⟨w1.heap.size, 0, none⟩), .pointer (some ⟨w1.heap.size + 1, 0, none⟩)] (fun e => e.2.any (edgeB ps)) (prsR us4 PS)) := Lib.hid fun W e hW he => by
      obtain ⟨A, m, c, hA, hr, hm, hne⟩ := hmem e he
      rw [hA]
      exact holes2_any ((hW.cell (o := 0) (by omega) (by omega)).trans l0) ((hW.cell (o := 1) (by omega) (by omega)).trans l1) ((hW.cell (o := 0) (by omega) (by omega)).trans u0) ((hW.cell (o := 1) (by omega) (by omega)).trans u1) (Nat.lt_of_lt_of_le (by omega) hW.size) (Nat.lt_of_lt_of_le (by omega) hW.size) (hr.gb hne hW) (by omega)
    have hfm := Lib.hid (show ∀ e ∈ prsR us4 PS, ∃ A m c, e.1 = Value.slice A m c from fun e he => by
      obtain ⟨A, m, c, hA, _⟩ := hmem e he
      exact ⟨A, m, c, hA⟩)
    have hrowH := Lib.hid hrow
    clear hmem hrow l0 l1 u0 u1
    go_wp2_with fail
    have hcall := DeleteFuncR_any w3.heap.size g4 c4 _ _ enters_holes2 (fun e => e.2.any (edgeB ps)) (prsR us4 PS) w4 hrowH.out (by rw [hlp.out]; have := hfl.out; omega) hT.out hfm.out
    rw [keepG_filter, hlp.out] at hcall
    refine hcall.mono ?_
    clear hcall
    rintro e w5 ⟨c5, rfl, hO5, hg5⟩
    have hO5H := Lib.hid hO5
    have hg5H := Lib.hid hg5
    clear hO5 hg5
    have hfl2 := Lib.hid (show ((prsR us4 PS).filter fun e => !(e.2.any (edgeB ps))).length = (holesB ps).length by
      rw [hhB.out, ← prsR_keep hulH.out (fun l => !(l.any (edgeB ps))), List.length_map])
    obtain ⟨M, hM⟩ : ∃ M, ((prsR us4 PS).filter fun e => !(e.2.any (edgeB ps))).length = M := ⟨_, rfl⟩
    have hMH := Lib.hid hM
    rw [hM] at hO5H ⊢
    rw [hM] at hfl2
    clear hM
    go_wp2
    go_ret
    refine ⟨some ⟨g4, 0, none⟩, c5, ((prsR us4 PS).filter fun e => !(e.2.any (edgeB ps))).map (·.1), by rw [← hfl2.out]; rfl, ?_, hb4H.out.trans (hg5H.out.toBelow (by have := hb3H.out.size; omega) (by have := hb3H.out.size; omega))⟩
    have h1 := (hO4H.out.struck (w' := w5) (n' := M) (c' := c5) (fun l => !(l.any (edgeB ps))) hMH.out hO5H.out hg5H.out).rebase (base' := w.heap.size) (by have := hb3H.out.size; omega)
    rw [← hfl2.out, hhB.out]
    exact h1
end Go.Proofs.Ytkppijcjmhkkkaa
/- Walks: the least rectangle of points, the reference; the area, both. -/

namespace Go.Proofs.Ytkppijcjmhkkkaa
open Go.RowKit
attribute [local go_sem] BelowBy.cell BelowBy.cell_drew stillUpon givesUpon

theorem l00Min_v {x y r : Int} (w : World) (h : mn x y = r) :
    Calls Try.prog 84 #[.int .i64 x, .int .i64 y] w fun e w' => e = .returned (.int .i64 r) ∧ w = w' := by
  subst h
  by_cases hh : x < y
  · have hr := Lib.hid (show mn x y = x by unfold mn; split <;> omega)
    go_enter Try.func84, Try.ntmps84
    go_wp2
    go_ret
    exact ⟨ret_int hr.out.symm, rfl⟩
  · have hr := Lib.hid (show mn x y = y by unfold mn; split <;> omega)
    go_enter Try.func84, Try.ntmps84
    go_wp2
    go_ret
    exact ⟨ret_int hr.out.symm, rfl⟩
theorem l00Max_v {x y r : Int} (w : World) (h : mx x y = r) :
    Calls Try.prog 85 #[.int .i64 x, .int .i64 y] w fun e w' => e = .returned (.int .i64 r) ∧ w = w' := by
  subst h
  by_cases hh : y < x
  · have hr := Lib.hid (show mx x y = x by unfold mx; split <;> omega)
    go_enter Try.func85, Try.ntmps85
    go_wp2
    go_ret
    exact ⟨ret_int hr.out.symm, rfl⟩
  · have hr := Lib.hid (show mx x y = y by unfold mx; split <;> omega)
    go_enter Try.func85, Try.ntmps85
    go_wp2
    go_ret
    exact ⟨ret_int hr.out.symm, rfl⟩
set_option maxRecDepth 100000 in
set_option maxHeartbeats 4000000 in
theorem l03Bounds_any {A : Option Addr} {n c : Nat} {ps : List Pt} {w : World} (h : RdSl 2 RPt w A n ps) (hn : 0 < n) (hm : n ≤ 100000) :
    Calls Try.prog 72 #[.slice A n c] w fun e w' => e = .returned (.tuple #[.agg #[.int .i64 (bxN ps n).lx, .int .i64 (bxN ps n).ly], .agg #[.int .i64 (bxN ps n).hx, .int .i64 (bxN ps n).hy]]) ∧ Below w.heap.size w w' := by
  have hA := Lib.hid h
  obtain ⟨b, o, rfl, hb, hc⟩ := h.ptr hn
  obtain ⟨e0, he0⟩ := h.get hn
  obtain ⟨d0, d1⟩ := hc 0 e0 he0
  simp only [Nat.zero_mul, Nat.add_zero] at d0 d1
  have hb0 := Lib.hid (show bxN ps 1 = ⟨e0.x, e0.y, e0.x, e0.y⟩ by rw [bxN_one]; simp [bxN, ptA, he0])
  have hnI : (0 : Int) < (n : Int) := by omega
  have hbs : b ≤ w.heap.size := by omega
  have hbs1 : b ≤ w.heap.size + 1 := by omega
  have hbs2 : b ≤ w.heap.size + 1 + 1 := by omega
  have hbn1 : ¬ b = w.heap.size := by omega
  have hbn2 : ¬ b = w.heap.size + 1 := by omega
  have hbn3 : ¬ b = w.heap.size + 1 + 1 := by omega
  have hbl1 : b < w.heap.size + 1 := by omega
  have hbl2 : b < w.heap.size + 1 + 1 := by omega
  have hbl3 : b < w.heap.size + 1 + 1 + 1 := by omega
  clear h hc he0
  go_enter Try.func72, Try.ntmps72
  have q2 : PtB ((((w.alloc (.cells #[.int .i64 0, .int .i64 0] 49)).alloc (.cells #[.int .i64 0, .int .i64 0] 49)).alloc (.cells #[.int .i64 e0.x, .int .i64 e0.y] 49)).alloc (.cells #[.int .i64 e0.x, .int .i64 e0.y] 49)) w.heap.size 0 0 := (((PtB.new w 0 0).al _).al _).al _
  have q3 : PtB ((((w.alloc (.cells #[.int .i64 0, .int .i64 0] 49)).alloc (.cells #[.int .i64 0, .int .i64 0] 49)).alloc (.cells #[.int .i64 e0.x, .int .i64 e0.y] 49)).alloc (.cells #[.int .i64 e0.x, .int .i64 e0.y] 49)) (w.heap.size + 1) 0 0 := by
    have := PtB.new (w.alloc (.cells #[.int .i64 0, .int .i64 0] 49)) 0 0
    simp only [World.size_alloc] at this
    exact (this.al _).al _
  have q4 : PtB ((((w.alloc (.cells #[.int .i64 0, .int .i64 0] 49)).alloc (.cells #[.int .i64 0, .int .i64 0] 49)).alloc (.cells #[.int .i64 e0.x, .int .i64 e0.y] 49)).alloc (.cells #[.int .i64 e0.x, .int .i64 e0.y] 49)) (w.heap.size + 1 + 1) e0.x e0.y := by
    have := PtB.new ((w.alloc (.cells #[.int .i64 0, .int .i64 0] 49)).alloc (.cells #[.int .i64 0, .int .i64 0] 49)) e0.x e0.y
    simp only [World.size_alloc] at this
    exact this.al _
  have q5 : PtB ((((w.alloc (.cells #[.int .i64 0, .int .i64 0] 49)).alloc (.cells #[.int .i64 0, .int .i64 0] 49)).alloc (.cells #[.int .i64 e0.x, .int .i64 e0.y] 49)).alloc (.cells #[.int .i64 e0.x, .int .i64 e0.y] 49)) (w.heap.size + 1 + 1 + 1) e0.x e0.y := by
    have := PtB.new (((w.alloc (.cells #[.int .i64 0, .int .i64 0] 49)).alloc (.cells #[.int .i64 0, .int .i64 0] 49)).alloc (.cells #[.int .i64 e0.x, .int .i64 e0.y] 49)) e0.x e0.y
    simp only [World.size_alloc] at this
    exact this
  have k6H := Lib.hid (show Below w.heap.size w ((((w.alloc (.cells #[.int .i64 0, .int .i64 0] 49)).alloc (.cells #[.int .i64 0, .int .i64 0] 49)).alloc (.cells #[.int .i64 e0.x, .int .i64 e0.y] 49)).alloc (.cells #[.int .i64 e0.x, .int .i64 e0.y] 49)) from bl_al (bl_al (bl_al (bl_al (bl_refl _) _) _) _) _)
  have q2H := Lib.hid q2
  have q3H := Lib.hid q3
  have start := Lib.hid (show PtB ((((w.alloc (.cells #[.int .i64 0, .int .i64 0] 49)).alloc (.cells #[.int .i64 0, .int .i64 0] 49)).alloc (.cells #[.int .i64 e0.x, .int .i64 e0.y] 49)).alloc (.cells #[.int .i64 e0.x, .int .i64 e0.y] 49)) (w.heap.size + 1 + 1) (bxN ps 1).lx (bxN ps 1).ly ∧
    PtB ((((w.alloc (.cells #[.int .i64 0, .int .i64 0] 49)).alloc (.cells #[.int .i64 0, .int .i64 0] 49)).alloc (.cells #[.int .i64 e0.x, .int .i64 e0.y] 49)).alloc (.cells #[.int .i64 e0.x, .int .i64 e0.y] 49)) (w.heap.size + 1 + 1 + 1) (bxN ps 1).hx (bxN ps 1).hy by rw [hb0.out]; exact ⟨q4, q5⟩)
  clear q2 q3 q4 q5 hb0
  go_wp2
  generalize ((((w.alloc (.cells #[.int .i64 0, .int .i64 0] 49)).alloc (.cells #[.int .i64 0, .int .i64 0] 49)).alloc (.cells #[.int .i64 e0.x, .int .i64 e0.y] 49)).alloc (.cells #[.int .i64 e0.x, .int .i64 e0.y] 49)) = w6 at k6H q2H q3H start ⊢
  obtain ⟨b4, hb4⟩ : ∃ b4, w.heap.size + 1 + 1 = b4 := ⟨_, rfl⟩
  rw [hb4] at start ⊢
  obtain ⟨b5, hb5⟩ : ∃ b5, b4 + 1 = b5 := ⟨_, rfl⟩
  rw [hb5] at start ⊢
  have ne45 : b4 ≠ b5 := by omega
  have ne45' : ¬ b4 = b5 := ne45
  have ne54' : ¬ b5 = b4 := fun e => ne45 e.symm
  have z6 : w.heap.size ≤ b4 := by omega
  have z7 : w.heap.size ≤ b5 := by omega
  have z2 : w.heap.size ≠ b4 := by omega
  have z3 : w.heap.size ≠ b5 := by omega
  have z4 : w.heap.size + 1 ≠ b4 := by omega
  have z5 : w.heap.size + 1 ≠ b5 := by omega
  have y4 : ¬ b = b4 := by omega
  have y5 : ¬ b = b5 := by omega
  clear hbn1 hbn2 hbn3 hbl1 hbl2 hbl3 hbs hbs1 hbs2 d0 d1 hb4 hb5
  go_loopg [6] (n - 1) (fun g i wr => ∃ j : Nat, j + g = n ∧ i = .int .i64 (j : Int) ∧ Hid (Below w.heap.size w wr) ∧ Hid (PtB wr w.heap.size 0 0) ∧ Hid (PtB wr (w.heap.size + 1) 0 0) ∧ Hid (PtB wr b4 (bxN ps j).lx (bxN ps j).ly ∧ PtB wr b5 (bxN ps j).hx (bxN ps j).hy))
  case atStart => exact ⟨1, by omega, rfl, k6H, q2H, q3H, start⟩
  case round =>
    obtain ⟨j, hj, rfl, hbw, hq2, hq3, hq⟩ := hrel
    have a0 := hq.out.1.c0
    have a1 := hq.out.1.c1
    have a2 := hq.out.1.f0
    have a3 := hq.out.1.f1
    have a4 := hq.out.1.lt
    have c0 := hq.out.2.c0
    have c1 := hq.out.2.c1
    have c2 := hq.out.2.f0
    have c3 := hq.out.2.f1
    have c4 := hq.out.2.lt
    by_cases hjn : j < n
    · have hAw := hA.out.below RPt.stable hbw.out
      obtain ⟨b', o', hbo, hbb, hc⟩ := hAw.ptr hn
      cases hbo
      obtain ⟨e, he⟩ := hAw.get hjn
      obtain ⟨d0, d1⟩ := hc j e he
      have hnx := Lib.hid (show ptA ps j = e by simp [ptA, he])
      have hjI : (j : Int) < (n : Int) := by omega
      have hj0 : (0 : Int) ≤ (j : Int) := by omega
      have hbs' : b ≤ wr.heap.size := by omega
      obtain ⟨m1, hm1⟩ : ∃ v, mn (bxN ps j).lx e.x = v := ⟨_, rfl⟩
      obtain ⟨m2, hm2⟩ : ∃ v, mn (bxN ps j).ly e.y = v := ⟨_, rfl⟩
      obtain ⟨m3, hm3⟩ : ∃ v, mx (bxN ps j).hx e.x = v := ⟨_, rfl⟩
      obtain ⟨m4, hm4⟩ : ∃ v, mx (bxN ps j).hy e.y = v := ⟨_, rfl⟩
      have hx2 := Lib.hid (show bxN ps (j + 1) = ⟨m1, m2, m3, m4⟩ by simp only [bxN]; rw [hnx.out, hm1, hm2, hm3, hm4])
      have h1H := Lib.hid hm1
      have h2H := Lib.hid hm2
      have h3H := Lib.hid hm3
      have h4H := Lib.hid hm4
      clear hc he hAw hm1 hm2 hm3 hm4
      go_wp2
      refine wp_region_ord [(0, .q), (1, .q), (2, .q), (3, .q), (4, .q), (5, .q), (6, .q), (8, .q), (9, .q), (10, .q), (11, .q), (12, .q), (13, .q), (14, .q), (7, .g), (15, .g), (16, .q), (17, .b)] (by kernel_rfl) (by kernel_rfl) ?_
      simp only [pick, List.filterMap_cons, List.filterMap_nil, List.getElem?_toArray, List.getElem?_cons_zero, List.getElem?_cons_succ, Option.map_some]
      repeat (first
        | ((with_reducible refine wpD_p (fun K hK => ?_)); go_simp; refine hK _ ?_; clear hK K)
        | ((with_reducible refine wpD_q (fun K hK => ?_)); go_simp; (first | refine hK _ ?_ | (go_bits; refine hK _ ?_) | (go_bits; go_simp; refine hK _ ?_)); clear hK K)
        | ((with_reducible refine wpD_g (fun K hK => ?_)); go_simp; refine hK _ _ ?_; clear hK K)
        | ((with_reducible refine wpD_g (fun K hK => ?_)); go_simp; refine ⟨Grew.of_alloc _, hK _ _ ?_⟩; clear hK K)
        | ((with_reducible refine wpD_g (fun K hK => ?_)); go_simp; go_at_call 84; refine (l00Min_v _ (by first | exact h1H.out | exact h2H.out)).mono ?_; rintro e _ ⟨rfl, rfl⟩; refine ⟨_, rfl, Below.refl _ _, hK _ _ ?_⟩; clear hK K))
      with_reducible refine wpD_b (fun K hK => ?_)
      go_simp
      refine hK _ _ ?_
      clear hK K
      with_reducible refine wpD_nil ?_
      go_wp2
      refine wp_region_ord [(0, .q), (1, .q), (2, .q), (3, .q), (4, .q), (5, .q), (6, .q), (8, .q), (9, .q), (10, .q), (11, .q), (12, .q), (13, .q), (14, .q), (7, .g), (15, .g), (16, .q), (17, .b)] (by kernel_rfl) (by kernel_rfl) ?_
      simp only [pick, List.filterMap_cons, List.filterMap_nil, List.getElem?_toArray, List.getElem?_cons_zero, List.getElem?_cons_succ, Option.map_some]
      repeat (first
        | ((with_reducible refine wpD_p (fun K hK => ?_)); go_simp; refine hK _ ?_; clear hK K)
        | ((with_reducible refine wpD_q (fun K hK => ?_)); go_simp; (first | refine hK _ ?_ | (go_bits; refine hK _ ?_) | (go_bits; go_simp; refine hK _ ?_)); clear hK K)
        | ((with_reducible refine wpD_g (fun K hK => ?_)); go_simp; refine hK _ _ ?_; clear hK K)
        | ((with_reducible refine wpD_g (fun K hK => ?_)); go_simp; refine ⟨Grew.of_alloc _, hK _ _ ?_⟩; clear hK K)
        | ((with_reducible refine wpD_g (fun K hK => ?_)); go_simp; go_at_call 85; refine (l00Max_v _ (by first | exact h3H.out | exact h4H.out)).mono ?_; rintro e _ ⟨rfl, rfl⟩; refine ⟨_, rfl, Below.refl _ _, hK _ _ ?_⟩; clear hK K))
      with_reducible refine wpD_b (fun K hK => ?_)
      go_simp
      refine hK _ _ ?_
      clear hK K
      with_reducible refine wpD_nil ?_
      go_wp2
      go_roundg (n - (j + 1))
      case measure => omega
      case rel =>
        exact ⟨j + 1, by omega, by go_num, Lib.hid ((((hbw.out.setCell (p := ⟨b4, 0, none⟩) z6 _).setCell (p := ⟨b4, 1, none⟩) z6 _).setCell (p := ⟨b5, 0, none⟩) z7 _).setCell (p := ⟨b5, 1, none⟩) z7 _).drew.drew,
          Lib.hid (((hq2.out.far2 z2 _ _).far2 z3 _ _).dr.dr), Lib.hid (((hq3.out.far2 z4 _ _).far2 z5 _ _).dr.dr), Lib.hid (by rw [hx2.out]; exact ⟨((hq.out.1.put _ _).far2 ne45 _ _).dr.dr, ((hq.out.2.far2 (fun e => ne45 e.symm) _ _).put _ _).dr.dr⟩)⟩
    · obtain rfl : j = n := by omega
      go_wp2_with fail
      have hJc : ∀ W, Js (fun x => x ≠ w.heap.size ∧ x ≠ w.heap.size + 1) wr.drew W → ∀ o', W.cell? ⟨b4, o', none⟩ = wr.cell? ⟨b4, o', none⟩ ∧ W.cell? ⟨b5, o', none⟩ = wr.cell? ⟨b5, o', none⟩ := fun W hW o' =>
        ⟨hW.cell o' ⟨by omega, by omega⟩ (by exact a4), hW.cell o' ⟨by omega, by omega⟩ (by exact c4)⟩
      refine wp_region_ordJ [(0, .p), (1, .p), (2, .b), (3, .b)] (by kernel_rfl) (by kernel_rfl) (Js (fun x => x ≠ w.heap.size ∧ x ≠ w.heap.size + 1) wr.drew) (Js.refl _ _) ?_
      simp only [pick, List.filterMap_cons, List.filterMap_nil, List.getElem?_toArray, List.getElem?_cons_zero, List.getElem?_cons_succ, Option.map_some]
      have e0' := hq2.out.c0
      have e1' := hq2.out.c1
      have e2' := hq2.out.f0
      have e3' := hq2.out.f1
      have e4' := hq3.out.c0
      have e5' := hq3.out.c1
      have e6' := hq3.out.f0
      have e7' := hq3.out.f1
      repeat (with_reducible refine wpDJ_pv rfl (fun K hK => ?_); apply Exists.intro; apply And.intro; (focus (intro W hW; have hc := hJc W hW; go_simp; (first | done | rfl | exact ⟨rfl, rfl⟩))); go_simp; refine hK _ ?_; clear hK K)
      clear hJc
      with_reducible refine wpDJ_b (fun K hK => ?_)
      go_simp
      refine ⟨((Js.refl _ wr.drew).set (p := w.heap.size) (fun b' hs _ => hs.1) _).set (p := w.heap.size) (fun b' hs _ => hs.1) _, hK _ _ ?_⟩
      clear hK K
      with_reducible refine wpDJ_b (fun K hK => ?_)
      go_simp
      refine ⟨((((Js.refl _ wr.drew).set (p := w.heap.size) (fun b' hs _ => hs.1) _).set (p := w.heap.size) (fun b' hs _ => hs.1) _).set (p := w.heap.size + 1) (fun b' hs _ => hs.2) _).set (p := w.heap.size + 1) (fun b' hs _ => hs.2) _, hK _ _ ?_⟩
      clear hK K
      with_reducible refine wpDJ_nil ?_
      go_wp2
      refine bodyPost_ret (v := .tuple #[.agg #[.int .i64 (bxN ps j).lx, .int .i64 (bxN ps j).ly], .agg #[.int .i64 (bxN ps j).hx, .int .i64 (bxN ps j).hy]]) (by simp only [results, Try.results72]; go_simp) rfl ?_
      exact ⟨rfl, (((hbw.out.drew.setCell (p := ⟨w.heap.size, 0, none⟩) (Nat.le_refl _) _).setCell (p := ⟨w.heap.size, 1, none⟩) (Nat.le_refl _) _).setCell (p := ⟨w.heap.size + 1, 0, none⟩) (Nat.le_succ _) _).setCell (p := ⟨w.heap.size + 1, 1, none⟩) (Nat.le_succ _) _⟩
theorem areaI_wraps {bx : Bnd} (h1 : -60 ≤ bx.lx ∧ bx.lx ≤ 60) (h2 : -60 ≤ bx.ly ∧ bx.ly ≤ 60) (h3 : -60 ≤ bx.hx ∧ bx.hx ≤ 60) (h4 : -60 ≤ bx.hy ∧ bx.hy ≤ 60) :
    IntKind.i64.wrap (bx.hx - bx.lx) = bx.hx - bx.lx ∧ IntKind.i64.wrap (bx.hx - bx.lx + 1) = bx.hx - bx.lx + 1 ∧ IntKind.i64.wrap (bx.hy - bx.ly) = bx.hy - bx.ly ∧ IntKind.i64.wrap (bx.hy - bx.ly + 1) = bx.hy - bx.ly + 1 ∧
      IntKind.i64.wrap ((bx.hx - bx.lx + 1) * (bx.hy - bx.ly + 1)) = areaI bx := by
  have hW : ∀ n : Int, -9000000000000000000 ≤ n → n ≤ 9000000000000000000 → IntKind.i64.wrap n = n := fun n h1 h2 => by
    simp [IntKind.wrap, IntKind.bits, IntKind.signed]; omega
  have hr := areaI_rng h1 h2 h3 h4
  exact ⟨hW _ (by omega) (by omega), hW _ (by omega) (by omega), hW _ (by omega) (by omega), hW _ (by omega) (by omega), hW (areaI bx) (by omega) (by omega)⟩
end Go.Proofs.Ytkppijcjmhkkkaa
