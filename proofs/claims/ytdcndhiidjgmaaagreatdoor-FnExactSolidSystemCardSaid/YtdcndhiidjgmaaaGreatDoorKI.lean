import Derived.Test.YtdcndhiidjgmaaaGreatDoorSy2
import Derived.Test.YtdcndhiidjgmaaaGreatDoorSy1
set_option linter.unusedSimpArgs false
set_option linter.unusedVariables false
/- Walk: the reference's system of a shape, with all checks. -/

namespace Go.Proofs.YtdcndhiidjgmaaaGreatDoor
open Go.RowKit Go.Shelf
attribute [local go_sem] BelowBy.cell BelowBy.cell_drew stillUpon givesUpon

theorem SyRes.none_ {w w' : World} {r : Sy × Int} {c : Int} (h : noSy c = r) (hb : Below w.heap.size w w') : SyRes w r (.returned (.tuple #[.agg #[.slice none 0 0, .slice none 0 0, .slice none 0 0, .int .i64 0], .int .i64 c])) w' := by
  subst h
  exact ⟨Option.none, Option.none, Option.none, 0, 0, 0, [], rfl, OwnSy.empty w' hb.size, hb⟩
theorem SyRes.boxed {w w2 : World} {lo : Nat} {r : Sy × Int} {A B C : Option Addr} {ca cb cc : Nat} {us : List Value} (h1 : OwnSy w2 lo w2.heap.size A B C ca cb cc us r.1) (hl : w.heap.size < lo) (hb : Below w.heap.size w w2) :
    SyRes w r (.returned (.tuple #[.agg #[.slice A r.1.gs.length ca, .slice B r.1.ts.length cb, .slice C r.1.xs.length cc, .int .i64 r.1.t], .int .i64 r.2]))
      ((((w2.setCell ⟨w.heap.size, 0, none⟩ (.slice A r.1.gs.length ca)).setCell ⟨w.heap.size, 1, none⟩ (.slice B r.1.ts.length cb)).setCell ⟨w.heap.size, 2, none⟩ (.slice C r.1.xs.length cc)).setCell ⟨w.heap.size, 3, none⟩ (.int .i64 r.1.t)) := by
  refine ⟨A, B, C, ca, cb, cc, us, rfl, ?_, bl_sys hb _ _ _ _⟩
  have hz := hb.size
  exact OwnSy.of (base := lo) (by omega) (by simpa using hz) (row_set4 h1.g hl _ _ _ _) (h1.t.set4 hl _ _ _ _) (row_set4 h1.p hl _ _ _ _) h1.four
theorem SyRes.boxedA {w w2 : World} {lo : Nat} {r : Sy × Int} {A B C : Option Addr} {ca cb cc : Nat} {us : List Value} (h1 : OwnSy w2 lo w2.heap.size A B C ca cb cc us r.1) (hl : w.heap.size < lo) (hb : Below w.heap.size w w2) (o : Obj) :
    SyRes w r (.returned (.tuple #[.agg #[.slice A r.1.gs.length ca, .slice B r.1.ts.length cb, .slice C r.1.xs.length cc, .int .i64 r.1.t], .int .i64 r.2]))
      (((((w2.setCell ⟨w.heap.size, 0, none⟩ (.slice A r.1.gs.length ca)).setCell ⟨w.heap.size, 1, none⟩ (.slice B r.1.ts.length cb)).setCell ⟨w.heap.size, 2, none⟩ (.slice C r.1.xs.length cc)).setCell ⟨w.heap.size, 3, none⟩ (.int .i64 r.1.t)).alloc o) := by
  refine ⟨A, B, C, ca, cb, cc, us, rfl, ?_, bl_al (bl_sys hb _ _ _ _) o⟩
  have hz := hb.size
  exact OwnSy.of (base := lo) (by omega) (by simp; omega) ((row_set4 h1.g hl _ _ _ _).alloc o) ((h1.t.set4 hl _ _ _ _).below (bl_al (bl_refl _) _)) ((row_set4 h1.p hl _ _ _ _).alloc o) h1.four
set_option maxRecDepth 100000 in
set_option maxHeartbeats 4000000 in
theorem l22Make_any (A : Option Addr) (n c : Nat) (ps : List Pt) (r : Int) (solid : Bool) (w : World) (h : RdSl 2 RPt w A n ps) (hn : n ≤ 1073741824) :
    Calls Tryz.prog 16 #[.slice A n c, .int .i64 r, .bool solid] w (SyRes w (shapeS ps r solid)) := by
  have hl := Lib.hid h.len
  have hH := Lib.hid h
  clear h
  by_cases hc : treeC ps r = 0
  · obtain ⟨hS, hone, hp1, hp2, rn, rfl, hr⟩ := treeC_zero hc
    have hcH := Lib.hid hc
    have hSH := Lib.hid hS
    rw [hl.out] at hp1 hp2 hr
    clear hc hS hone
    go_enter Tryz.func16, Tryz.ntmps16
    go_wp2_with fail
    refine (l22Asked_at (hH.out.below RPt.stable (bl_al (bl_refl _) _)) hn hcH.out).mono ?_
    rintro e w1 ⟨rfl, hb1⟩
    have hb1H := Lib.hid (show Below w.heap.size w w1 from (bl_al (bl_refl _) _).trans (hb1.mono (by simp)))
    have bR := Lib.hid ((Bx.made w [.slice none 0 0, .slice none 0 0, .slice none 0 0, .int .i64 0] 32).below hb1)
    clear hb1
    by_cases hf : 160 < n
    · have hR := Lib.hid (shapeS_full (solid := solid) hcH.out (by rw [hl.out]; exact hf)).symm
      have hfI : (n : Int) > 160 := by omega
      have z0 := bR.out.cell 0 _ rfl
      have z1 := bR.out.cell 1 _ rfl
      have z2 := bR.out.cell 2 _ rfl
      have z3 := bR.out.cell 3 _ rfl
      have f0 := bR.out.froz
      have l0 := bR.out.lt
      go_wp2
      refine bodyPost_ret (v := .tuple #[.agg #[.slice none 0 0, .slice none 0 0, .slice none 0 0, .int .i64 0], .int .i64 4]) (by simp only [results, Tryz.results16]; go_simp) rfl ?_
      exact SyRes.none_ hR.out (bl_sys hb1H.out _ _ _ _)
    · have hfI : ¬ (n : Int) > 160 := by omega
      go_wp2_with fail
      refine (l22System_any A n c ps rn solid _ (hH.out.below RPt.stable hb1H.out) hSH.out (by omega) hr).mono ?_
      rintro e w2 ⟨A1, B1, C1, ca, cb, cc, us, rfl, hO, hb2⟩
      obtain ⟨gt, hgt⟩ : ∃ gt, shapeG ps rn solid = gt := ⟨_, rfl⟩
      have hGI := shapeG_inv ps rn solid
      rw [hgt, hl.out] at hGI
      rw [hgt] at hO ⊢
      have hgtH := Lib.hid hgt
      obtain ⟨xl, hxl⟩ : ∃ xl, shapeL ps rn solid = xl := ⟨_, rfl⟩
      rw [hxl] at hO ⊢
      have hxlH := Lib.hid hxl
      obtain ⟨ng, hng⟩ : ∃ ng, gt.1.length = ng := ⟨_, rfl⟩
      have hng3 : ng ≤ 400 := by have := hGI.gl; omega
      have bR2 := Lib.hid (bR.out.below hb2)
      have hb2H := Lib.hid (hb1H.out.trans (hb2.mono hb1H.out.size))
      have hOH := Lib.hid hO
      have hngH := Lib.hid hng
      rw [hng]
      obtain ⟨nt, hnt⟩ : ∃ nt, gt.2.length = nt := ⟨_, rfl⟩
      obtain ⟨nx, hnx⟩ : ∃ nx, xl.length = nx := ⟨_, rfl⟩
      rw [hnt, hnx]
      have hntH := Lib.hid hnt
      have hnxH := Lib.hid hnx
      have z0 := bR2.out.cell 0 _ rfl
      have z1 := bR2.out.cell 1 _ rfl
      have z2 := bR2.out.cell 2 _ rfl
      have z3 := bR2.out.cell 3 _ rfl
      have f0 := bR2.out.froz
      have l0 := bR2.out.lt
      have l1 := bR.out.lt
      have hl1 : w.heap.size < w1.heap.size := l1
      clear hb2 hO hgt hxl hng hnt hnx l1
      by_cases hfull : 200 < ng
      · have hR := Lib.hid (shapeS_many (solid := solid) hcH.out (by rw [hl.out]; omega) (by rw [hgtH.out, hngH.out]; exact hfull)).symm
        have hf2 : (ng : Int) > 200 := by omega
        go_wp2
        refine bodyPost_ret (v := .tuple #[.agg #[.slice none 0 0, .slice none 0 0, .slice none 0 0, .int .i64 0], .int .i64 4]) (by simp only [results, Tryz.results16]; go_simp) rfl ?_
        exact SyRes.none_ hR.out (bl_al (bl_sys hb2H.out _ _ _ _) _)
      · have hR := Lib.hid (shapeS_ok (solid := solid) hcH.out (by rw [hl.out]; omega) (by rw [hgtH.out, hngH.out]; exact hfull)).symm
        have hf2 : ¬ (ng : Int) > 200 := by omega
        go_wp2
        refine bodyPost_ret (v := .tuple #[.agg #[.slice A1 ng ca, .slice B1 nt cb, .slice C1 nx cc, .int .i64 2], .int .i64 0]) (by simp only [results, Tryz.results16]; go_simp) rfl ?_
        rw [← hR.out, hgtH.out, hxlH.out, ← hngH.out, ← hntH.out, ← hnxH.out]
        exact SyRes.boxedA (r := (⟨gt.1, gt.2, xl, 2⟩, 0)) hOH.out hl1 hb2H.out _
  · have hR := Lib.hid (shapeS_bad (solid := solid) hc).symm
    obtain ⟨code, hcode⟩ : ∃ code, treeC ps r = code := ⟨_, rfl⟩
    have hc1 : code = 1 ∨ code = 2 := by
      have := treeC_cases ps r
      rw [hcode] at this hc
      omega
    rw [hcode] at hR
    have hcH := Lib.hid hcode
    clear hcode hc
    rcases hc1 with rfl | rfl
    · go_enter Tryz.func16, Tryz.ntmps16
      go_wp2_with fail
      refine (l22Asked_at (hH.out.below RPt.stable (bl_al (bl_refl _) _)) hn hcH.out).mono ?_
      rintro e w1 ⟨rfl, hb1⟩
      have hb1H := Lib.hid (show Below w.heap.size w w1 from (bl_al (bl_refl _) _).trans (hb1.mono (by simp)))
      have bR := (Bx.made w [.slice none 0 0, .slice none 0 0, .slice none 0 0, .int .i64 0] 32).below hb1
      have z0 := bR.cell 0 _ rfl
      have z1 := bR.cell 1 _ rfl
      have z2 := bR.cell 2 _ rfl
      have z3 := bR.cell 3 _ rfl
      have f0 := bR.froz
      have l0 := bR.lt
      clear hb1 bR
      go_wp2
      refine bodyPost_ret (v := .tuple #[.agg #[.slice none 0 0, .slice none 0 0, .slice none 0 0, .int .i64 0], .int .i64 1]) (by simp only [results, Tryz.results16]; go_simp) rfl ?_
      exact SyRes.none_ hR.out (bl_sys hb1H.out _ _ _ _)
    · go_enter Tryz.func16, Tryz.ntmps16
      go_wp2_with fail
      refine (l22Asked_at (hH.out.below RPt.stable (bl_al (bl_refl _) _)) hn hcH.out).mono ?_
      rintro e w1 ⟨rfl, hb1⟩
      have hb1H := Lib.hid (show Below w.heap.size w w1 from (bl_al (bl_refl _) _).trans (hb1.mono (by simp)))
      have bR := (Bx.made w [.slice none 0 0, .slice none 0 0, .slice none 0 0, .int .i64 0] 32).below hb1
      have z0 := bR.cell 0 _ rfl
      have z1 := bR.cell 1 _ rfl
      have z2 := bR.cell 2 _ rfl
      have z3 := bR.cell 3 _ rfl
      have f0 := bR.froz
      have l0 := bR.lt
      clear hb1 bR
      go_wp2
      refine bodyPost_ret (v := .tuple #[.agg #[.slice none 0 0, .slice none 0 0, .slice none 0 0, .int .i64 0], .int .i64 2]) (by simp only [results, Tryz.results16]; go_simp) rfl ?_
      exact SyRes.none_ hR.out (bl_sys hb1H.out _ _ _ _)
end Go.Proofs.YtdcndhiidjgmaaaGreatDoor
/- Walks: ShapeSystem and SolidSystem, the program's and the reference's. -/


namespace Go.Proofs.YtdcndhiidjgmaaaGreatDoor
open Go.RowKit Go.Shelf
attribute [local go_sem] BelowBy.cell BelowBy.cell_drew stillUpon givesUpon

set_option maxRecDepth 100000 in
set_option maxHeartbeats 4000000 in
theorem ShapeSystem_any (A : Option Addr) (n c : Nat) (ps : List Pt) (r : Int) (w : World) (hT : Tab w) (h : RdSl 2 RPt w A n ps) (hn : n ≤ 1073741824) :
    Calls Tryz.prog 8 #[.slice A n c, .int .i64 r] w (SyRes w (shapeS ps r false)) := by
  go_enter Tryz.func8, Tryz.ntmps8
  go_wp2_with fail
  refine (shapeSystem_any A n c ps r false _ (h.below RPt.stable (bl_al (bl_refl _) _)) hn (hT.below (bl_al (bl_refl _) _))).mono ?_
  rintro e w2 ⟨A1, B1, C1, ca, cb, cc, us, rfl, hO, hb2⟩
  obtain ⟨R, hR⟩ : ∃ R, shapeS ps r false = R := ⟨_, rfl⟩
  rw [hR] at hO ⊢
  have bR := Lib.hid ((Bx.made w [.slice none 0 0, .slice none 0 0, .slice none 0 0, .int .i64 0] 32).below hb2)
  have hbH := Lib.hid (show Below w.heap.size w w2 from (bl_al (bl_refl _) _).trans (hb2.mono (by simp)))
  obtain ⟨⟨gs, ts, xl, tt⟩, rc⟩ := R
  simp only at hO ⊢
  obtain ⟨ng, hng⟩ : ∃ ng, gs.length = ng := ⟨_, rfl⟩
  obtain ⟨nt, hnt⟩ : ∃ nt, ts.length = nt := ⟨_, rfl⟩
  obtain ⟨nx, hnx⟩ : ∃ nx, xl.length = nx := ⟨_, rfl⟩
  rw [hng, hnt, hnx]
  have hngH := Lib.hid hng
  have hntH := Lib.hid hnt
  have hnxH := Lib.hid hnx
  have hOH := Lib.hid hO
  have z0 := bR.out.cell 0 _ rfl
  have z1 := bR.out.cell 1 _ rfl
  have z2 := bR.out.cell 2 _ rfl
  have z3 := bR.out.cell 3 _ rfl
  have f0 := bR.out.froz
  have l0 := bR.out.lt
  have hRH := Lib.hid hR
  clear hR hO hb2 hng hnt hnx
  go_wp2
  refine bodyPost_ret (v := .tuple #[.agg #[.slice A1 ng ca, .slice B1 nt cb, .slice C1 nx cc, .int .i64 tt], .int .i64 rc]) (by simp only [results, Tryz.results8]; go_simp) rfl ?_
  rw [hRH.out, ← hngH.out, ← hntH.out, ← hnxH.out]
  exact SyRes.boxed (r := (⟨gs, ts, xl, tt⟩, rc)) hOH.out (by simp) hbH.out
set_option maxRecDepth 100000 in
set_option maxHeartbeats 4000000 in
theorem SolidSystem_any (A : Option Addr) (n c : Nat) (ps : List Pt) (r : Int) (w : World) (hT : Tab w) (h : RdSl 2 RPt w A n ps) (hn : n ≤ 1073741824) :
    Calls Tryz.prog 15 #[.slice A n c, .int .i64 r] w (SyRes w (shapeS ps r true)) := by
  go_enter Tryz.func15, Tryz.ntmps15
  go_wp2_with fail
  refine (shapeSystem_any A n c ps r true _ (h.below RPt.stable (bl_al (bl_refl _) _)) hn (hT.below (bl_al (bl_refl _) _))).mono ?_
  rintro e w2 ⟨A1, B1, C1, ca, cb, cc, us, rfl, hO, hb2⟩
  obtain ⟨R, hR⟩ : ∃ R, shapeS ps r true = R := ⟨_, rfl⟩
  rw [hR] at hO ⊢
  have bR := Lib.hid ((Bx.made w [.slice none 0 0, .slice none 0 0, .slice none 0 0, .int .i64 0] 32).below hb2)
  have hbH := Lib.hid (show Below w.heap.size w w2 from (bl_al (bl_refl _) _).trans (hb2.mono (by simp)))
  obtain ⟨⟨gs, ts, xl, tt⟩, rc⟩ := R
  simp only at hO ⊢
  obtain ⟨ng, hng⟩ : ∃ ng, gs.length = ng := ⟨_, rfl⟩
  obtain ⟨nt, hnt⟩ : ∃ nt, ts.length = nt := ⟨_, rfl⟩
  obtain ⟨nx, hnx⟩ : ∃ nx, xl.length = nx := ⟨_, rfl⟩
  rw [hng, hnt, hnx]
  have hngH := Lib.hid hng
  have hntH := Lib.hid hnt
  have hnxH := Lib.hid hnx
  have hOH := Lib.hid hO
  have z0 := bR.out.cell 0 _ rfl
  have z1 := bR.out.cell 1 _ rfl
  have z2 := bR.out.cell 2 _ rfl
  have z3 := bR.out.cell 3 _ rfl
  have f0 := bR.out.froz
  have l0 := bR.out.lt
  have hRH := Lib.hid hR
  clear hR hO hb2 hng hnt hnx
  go_wp2
  refine bodyPost_ret (v := .tuple #[.agg #[.slice A1 ng ca, .slice B1 nt cb, .slice C1 nx cc, .int .i64 tt], .int .i64 rc]) (by simp only [results, Tryz.results15]; go_simp) rfl ?_
  rw [hRH.out, ← hngH.out, ← hntH.out, ← hnxH.out]
  exact SyRes.boxed (r := (⟨gs, ts, xl, tt⟩, rc)) hOH.out (by simp) hbH.out
set_option maxRecDepth 100000 in
set_option maxHeartbeats 4000000 in
theorem sShapeSystem_any (A : Option Addr) (n c : Nat) (ps : List Pt) (r : Int) (w : World) (h : RdSl 2 RPt w A n ps) (hn : n ≤ 1073741824) :
    Calls Tryz.prog 6 #[.slice A n c, .int .i64 r] w (SyRes w (shapeS ps r false)) := by
  go_enter Tryz.func6, Tryz.ntmps6
  go_wp2_with fail
  refine (l22Make_any A n c ps r false _ (h.below RPt.stable (bl_al (bl_refl _) _)) hn).mono ?_
  rintro e w2 ⟨A1, B1, C1, ca, cb, cc, us, rfl, hO, hb2⟩
  obtain ⟨R, hR⟩ : ∃ R, shapeS ps r false = R := ⟨_, rfl⟩
  rw [hR] at hO ⊢
  have bR := Lib.hid ((Bx.made w [.slice none 0 0, .slice none 0 0, .slice none 0 0, .int .i64 0] 32).below hb2)
  have hbH := Lib.hid (show Below w.heap.size w w2 from (bl_al (bl_refl _) _).trans (hb2.mono (by simp)))
  obtain ⟨⟨gs, ts, xl, tt⟩, rc⟩ := R
  simp only at hO ⊢
  obtain ⟨ng, hng⟩ : ∃ ng, gs.length = ng := ⟨_, rfl⟩
  obtain ⟨nt, hnt⟩ : ∃ nt, ts.length = nt := ⟨_, rfl⟩
  obtain ⟨nx, hnx⟩ : ∃ nx, xl.length = nx := ⟨_, rfl⟩
  rw [hng, hnt, hnx]
  have hngH := Lib.hid hng
  have hntH := Lib.hid hnt
  have hnxH := Lib.hid hnx
  have hOH := Lib.hid hO
  have z0 := bR.out.cell 0 _ rfl
  have z1 := bR.out.cell 1 _ rfl
  have z2 := bR.out.cell 2 _ rfl
  have z3 := bR.out.cell 3 _ rfl
  have f0 := bR.out.froz
  have l0 := bR.out.lt
  have hRH := Lib.hid hR
  clear hR hO hb2 hng hnt hnx
  go_wp2
  refine bodyPost_ret (v := .tuple #[.agg #[.slice A1 ng ca, .slice B1 nt cb, .slice C1 nx cc, .int .i64 tt], .int .i64 rc]) (by simp only [results, Tryz.results6]; go_simp) rfl ?_
  rw [hRH.out, ← hngH.out, ← hntH.out, ← hnxH.out]
  exact SyRes.boxed (r := (⟨gs, ts, xl, tt⟩, rc)) hOH.out (by simp) hbH.out
set_option maxRecDepth 100000 in
set_option maxHeartbeats 4000000 in
theorem sSolidSystem_any (A : Option Addr) (n c : Nat) (ps : List Pt) (r : Int) (w : World) (h : RdSl 2 RPt w A n ps) (hn : n ≤ 1073741824) :
    Calls Tryz.prog 14 #[.slice A n c, .int .i64 r] w (SyRes w (shapeS ps r true)) := by
  go_enter Tryz.func14, Tryz.ntmps14
  go_wp2_with fail
  refine (l22Make_any A n c ps r true _ (h.below RPt.stable (bl_al (bl_refl _) _)) hn).mono ?_
  rintro e w2 ⟨A1, B1, C1, ca, cb, cc, us, rfl, hO, hb2⟩
  obtain ⟨R, hR⟩ : ∃ R, shapeS ps r true = R := ⟨_, rfl⟩
  rw [hR] at hO ⊢
  have bR := Lib.hid ((Bx.made w [.slice none 0 0, .slice none 0 0, .slice none 0 0, .int .i64 0] 32).below hb2)
  have hbH := Lib.hid (show Below w.heap.size w w2 from (bl_al (bl_refl _) _).trans (hb2.mono (by simp)))
  obtain ⟨⟨gs, ts, xl, tt⟩, rc⟩ := R
  simp only at hO ⊢
  obtain ⟨ng, hng⟩ : ∃ ng, gs.length = ng := ⟨_, rfl⟩
  obtain ⟨nt, hnt⟩ : ∃ nt, ts.length = nt := ⟨_, rfl⟩
  obtain ⟨nx, hnx⟩ : ∃ nx, xl.length = nx := ⟨_, rfl⟩
  rw [hng, hnt, hnx]
  have hngH := Lib.hid hng
  have hntH := Lib.hid hnt
  have hnxH := Lib.hid hnx
  have hOH := Lib.hid hO
  have z0 := bR.out.cell 0 _ rfl
  have z1 := bR.out.cell 1 _ rfl
  have z2 := bR.out.cell 2 _ rfl
  have z3 := bR.out.cell 3 _ rfl
  have f0 := bR.out.froz
  have l0 := bR.out.lt
  have hRH := Lib.hid hR
  clear hR hO hb2 hng hnt hnx
  go_wp2
  refine bodyPost_ret (v := .tuple #[.agg #[.slice A1 ng ca, .slice B1 nt cb, .slice C1 nx cc, .int .i64 tt], .int .i64 rc]) (by simp only [results, Tryz.results14]; go_simp) rfl ?_
  rw [hRH.out, ← hngH.out, ← hntH.out, ← hnxH.out]
  exact SyRes.boxed (r := (⟨gs, ts, xl, tt⟩, rc)) hOH.out (by simp) hbH.out
end Go.Proofs.YtdcndhiidjgmaaaGreatDoor
