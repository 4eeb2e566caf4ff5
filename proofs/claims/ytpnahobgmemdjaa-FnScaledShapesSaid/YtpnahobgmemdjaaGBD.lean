import Derived.Test.YtpnahobgmemdjaaGBC
import Derived.Test.YtpnahobgmemdjaaGAJ
import Derived.Test.YtpnahobgmemdjaaGAB
set_option linter.unusedSimpArgs false
set_option linter.unusedVariables false
/- Walks: placed tiles sorted to an assembly; two assemblies joined; an assembly in normal form. -/



namespace Go.Proofs.Ytpnahobgmemdjaa
open Go.RowKit Go.Shelf
attribute [local go_sem] BelowBy.cell BelowBy.cell_drew stillUpon givesUpon BelowBy.cell_drew2 BelowBy.cell_drew3

theorem ownsRow_baseU {w : World} {base base' : Nat} {e : TypeId} {size : Nat} {v : Value} {n : Nat} {xs : List Value} (h : w.ownsRow base e size v n xs) (hb : base' ≤ base) : w.ownsRow base' e size v n xs :=
  ⟨h.1, h.2.imp id (fun ⟨g, cap, cur, h1, h2, h3⟩ => ⟨g, cap, cur, h1, Nat.le_trans hb h2, h3⟩)⟩
/-- the result is an assembly of the call's own -/
def OwnAsm (w : World) (Z : List Pl) (e : Ending) (w' : World) : Prop :=
  ∃ B c', e = .returned (.agg #[.slice B Z.length c']) ∧ w'.ownsRow w.heap.size 38 3 (.slice B Z.length c') Z.length (plCells Z) ∧ Below w.heap.size w w'
set_option maxRecDepth 100000 in
set_option maxHeartbeats 1000000 in
theorem assemblyOf_any (A : Option Addr) (n c : Nat) (L : List Pl) (w : World) (h : RdSl 3 RPl w A n L) (hn : n ≤ 100000) (h0 : 0 < n) (hap : L.Pairwise apart) :
    Calls Try.prog 47 #[.slice A n c] w (OwnAsm w (sortPl L)) := by
  have hlH := Lib.hid h.len
  have hH := Lib.hid h
  have hapH := Lib.hid hap
  clear h hap
  go_enter Try.func47, Try.ntmps47
  go_wp2_with fail
  refine (CloneP_any A n c L _ (hH.out.below RPl.stable (by exact bel_)) hn).mono ?_
  rintro e w1 ⟨v, rfl, hown, hb1⟩
  rw [hlH.out] at hown
  rcases hown.2 with ⟨_, h00⟩ | ⟨g, cap, cur, rfl, hbg, hh, _⟩
  · omega
  have hgw : g < w1.heap.size := (Array.getElem?_eq_some_iff.1 hh).1
  have hbg2 : w.heap.size + 1 ≤ g := by simpa using hbg
  have r0 : w1.cell? ⟨w.heap.size, 0, none⟩ = some (.slice none 0 0) := (hb1.cell (p := ⟨w.heap.size, 0, none⟩) (by simp)).trans (by go_simp)
  have rf : w1.frozen? ⟨w.heap.size, 0, none⟩ = false := (hb1.frozen (p := ⟨w.heap.size, 0, none⟩) (by simp)).trans (by go_simp)
  have hs1 : w.heap.size + 1 ≤ w1.heap.size := by have := hb1.size; simpa using this
  have hbw1 := Lib.hid (show Below w.heap.size w w1 by exact bel_)
  have hownH := Lib.hid hown
  clear hown hb1 hbg hh
  go_wp2_with fail
  have hsrt := SortFuncPl_any L hapH.out (w.heap.size + 1) g cap w1 (by rw [hlH.out]; simpa using hownH.out) (by rw [hlH.out]; omega)
  rw [hlH.out] at hsrt
  refine hsrt.mono ?_
  rintro e w2 ⟨rfl, hown2, hg2⟩
  have hX : Below (w.heap.size + 1) w1 w2 := (Below.refl (w.heap.size + 1) w1).grown hg2 hs1 (fun b e => by injection e with e; omega)
  replace r0 := (hX.cell (p := ⟨w.heap.size, 0, none⟩) (by simp)).trans r0
  replace rf := (hX.frozen (p := ⟨w.heap.size, 0, none⟩) (by simp)).trans rf
  have hs2 : w.heap.size < w2.heap.size := by have := hX.size; omega
  have hown2H := Lib.hid hown2
  have hbw2 := Lib.hid (hbw1.out.trans (hX.mono (by omega)))
  clear hown2 hg2 hsrt hX
  go_wp2
  refine bodyPost_ret (v := .agg #[.slice (some ⟨g, 0, none⟩) n cap]) (by simp only [results, Try.results47]; go_simp) rfl ?_
  have hsl : (sortPl L).length = n := by rw [sortPl_len]; exact hlH.out
  refine ⟨some ⟨g, 0, none⟩, cap, by rw [hsl], ?_, hbw2.out.setCell (p := ⟨w.heap.size, 0, none⟩) (by simp) _⟩
  rw [hsl]
  exact ownsRow_baseU (ownsRow_setCell_below hown2H.out (by simp) _) (by omega)
/-- an assembly and a sign -/
def OwnAsmB (w : World) (Z : List Pl) (v : Bool) (e : Ending) (w' : World) : Prop :=
  ∃ B c', e = .returned (.tuple #[.agg #[.slice B Z.length c'], .bool v]) ∧ w'.ownsRow w.heap.size 38 3 (.slice B Z.length c') Z.length (plCells Z) ∧ Below w.heap.size w w'
set_option maxRecDepth 100000 in
set_option maxHeartbeats 4000000 in
theorem joined_any (A C : Option Addr) (n ca m cb : Nat) (gs : List Gl) (ts : List Ti) (xs ms : List Pl) (w : World) (hA : RdSl 3 RPl w A n xs) (hC : RdSl 3 RPl w C m ms) (h2 : Two gs ts xs ms) (hml : m ≤ 500) (h0 : 0 < m) :
    Calls Try.prog 37 #[.agg #[.slice A n ca], .agg #[.slice C m cb]] w (OwnAsmB w (sortPl (xs ++ ms)) true) := by
  obtain ⟨i2, hi2, hz02, hz12, hz22⟩ := info_parts infoPl
  have hlA := Lib.hid hA.len
  have hlC := Lib.hid hC.len
  have hn5 : n ≤ 500 := by have := h2.V.len; rw [hA.len] at this; exact this
  have hVH := Lib.hid h2.V
  have hfr := Lib.hid h2.fr
  have hap := Lib.hid h2.apart
  have hAH := Lib.hid hA
  have hCH := Lib.hid hC
  clear hA hC h2
  go_enter Try.func37, Try.ntmps37
  go_wp2_with fail
  refine (CloneP_any A n ca xs _ (hAH.out.below RPl.stable (by exact bel_)) (by omega)).mono ?_
  rintro e w1 ⟨v1, rfl, hown, hb1⟩
  rw [hlA.out] at hown
  obtain ⟨A3, c3, rfl⟩ := ownsRow_form hown
  have hown0 := Lib.hid (show w1.ownsRow (w.heap.size + 3) 38 3 (.slice A3 n c3) n (plCells xs) by simpa using hown)
  have hs1 : w.heap.size + 3 ≤ w1.heap.size := by have := hb1.size; simpa using this
  have hbw1 := Lib.hid (show Below w.heap.size w w1 by exact bel_)
  have ka : w1.cell? ⟨w.heap.size, 0, none⟩ = some (.slice A n ca) := (hb1.cell (p := ⟨w.heap.size, 0, none⟩) (by simp; omega)).trans (by go_simp)
  have kb : w1.cell? ⟨w.heap.size + 1, 0, none⟩ = some (.slice C m cb) := (hb1.cell (p := ⟨w.heap.size + 1, 0, none⟩) (by simp)).trans (by go_simp)
  have r0 : w1.cell? ⟨w.heap.size + 1 + 1, 0, none⟩ = some (.slice none 0 0) := (hb1.cell (p := ⟨w.heap.size + 1 + 1, 0, none⟩) (by simp)).trans (by go_simp)
  have rf : w1.frozen? ⟨w.heap.size + 1 + 1, 0, none⟩ = false := (hb1.frozen (p := ⟨w.heap.size + 1 + 1, 0, none⟩) (by simp)).trans (by go_simp)
  have l0 : w.heap.size < w1.heap.size := by omega
  have l1 : w.heap.size + 1 < w1.heap.size := by omega
  have l2 : w.heap.size + 1 + 1 < w1.heap.size := by omega
  clear hown hb1
  go_wp2
  go_loopg [16, 6] m (fun g x y wr => ∃ (k : Nat) (A4 : Option Addr) (c4 : Nat), k + g = m ∧ x = .int .i64 (k : Int) ∧ y = .slice A4 (n + k) c4 ∧ Hid (wr.ownsRow (w.heap.size + 3) 38 3 (.slice A4 (n + k) c4) (n + k) (plCells (xs ++ ms.take k))) ∧ Hid (Below w.heap.size w wr) ∧ w.heap.size + 3 ≤ wr.heap.size ∧ wr.cell? ⟨w.heap.size, 0, none⟩ = some (.slice A n ca) ∧ wr.cell? ⟨w.heap.size + 1 + 1, 0, none⟩ = some (.slice none 0 0) ∧ wr.frozen? ⟨w.heap.size + 1 + 1, 0, none⟩ = false)
  case atStart => exact ⟨0, A3, c3, by omega, rfl, rfl, Lib.hid (by simpa using hown0.out), hbw1, hs1, ka, r0, rf⟩
  case round =>
    clear hown0 hbw1 hs1 ka kb r0 rf l0 l1 l2
    obtain ⟨k, A4, c4, hk, rfl, rfl, hO, hbw, hs1, ka, r0, rf⟩ := hrel
    have l0 : w.heap.size < wr.heap.size := by omega
    have l2 : w.heap.size + 1 + 1 < wr.heap.size := by omega
    by_cases hkm : k < m
    · obtain ⟨e, he⟩ : ∃ e, ms[k]? = some e := ⟨_, List.getElem?_eq_getElem (by have := hlC.out; omega)⟩
      obtain ⟨bB, oB, rfl, hbB, hcB⟩ := (hCH.out.below RPl.stable hbw.out).ptr (by omega)
      obtain ⟨e0, e1, e2⟩ := hcB k e he
      have hat : atI xs e.x e.y = -1 := by
        have hf := hfr.out k (lt_of_get he)
        rw [freeAt_eq he, decide_eq_true_eq] at hf
        rcases atI_cases hVH.out e.x e.y with ⟨_, h⟩ | ⟨i, t2, d, hp, _, _, _, _⟩
        · exact h
        · omega
      have hatH := Lib.hid hat
      have htk : ms.take (k + 1) = ms.take k ++ [e] := by
        obtain ⟨hi, rfl⟩ := List.getElem?_eq_some_iff.1 he
        exact List.take_succ_eq_append_getElem hi
      have htkH := Lib.hid htk
      clear hcB hat he htk
      go_wp2_with fail
      refine (at_at (hAH.out.below RPl.stable (hbw.out.trans (Below.mono (show Below wr.heap.size wr _ by exact bel_) hbw.out.size))) hVH.out hatH.out).mono ?_
      rintro e' w2 ⟨rfl, hb2⟩
      have d0 : w2.cell? ⟨wr.heap.size, 0, none⟩ = some (.int .i64 e.x) := (hb2.cell (p := ⟨wr.heap.size, 0, none⟩) (by simp)).trans (by go_simp)
      have d1 : w2.cell? ⟨wr.heap.size, 1, none⟩ = some (.int .i64 e.y) := (hb2.cell (p := ⟨wr.heap.size, 1, none⟩) (by simp)).trans (by go_simp)
      have d2 : w2.cell? ⟨wr.heap.size, 2, none⟩ = some (.int .i64 e.t) := (hb2.cell (p := ⟨wr.heap.size, 2, none⟩) (by simp)).trans (by go_simp)
      have hB2 : Below wr.heap.size wr w2 := by exact bel_
      have s2 := hB2.size
      have s3 : wr.heap.size < w2.heap.size := Nat.lt_of_lt_of_le (by simp) hb2.size
      replace ka := (hB2.cell (p := ⟨w.heap.size, 0, none⟩) l0).trans ka
      replace r0 := (hB2.cell (p := ⟨w.heap.size + 1 + 1, 0, none⟩) l2).trans r0
      replace rf := (hB2.frozen (p := ⟨w.heap.size + 1 + 1, 0, none⟩) l2).trans rf
      have hO2 := Lib.hid (ownsRow_below hO.out hB2)
      have hbw2 := Lib.hid (hbw.out.trans (Below.mono hB2 hbw.out.size))
      clear hb2 hB2 e0 e1 e2 hO hbw
      go_wp2_with (at_builtin; refine wpList_append_own _ rfl _ _ 24 rfl (w.heap.size + 3) 38 i2 (.agg #[.int .i64 0, .int .i64 0, .int .i64 0]) 3 24 Try.underlying24 hi2 hz02 hz12 hz22 rfl (by decide) _ _ _ rfl (hO2.out.alloc _) ⟨w2.heap.size, 0, none⟩ 1 1 [.int .i64 e.x, .int .i64 e.y, .int .i64 e.t] rfl rfl (cell_three_new _ _ _ _ _) (fun x hx => by simp at hx; rcases hx with rfl | rfl | rfl <;> rfl) (by unfold maxLen; omega) (by omega) (by simp; omega) ?_; intro v' w3 hown' hgrow _; obtain ⟨g', cap', rfl⟩ := ownsRow_succ hown'; have hX : Below (w.heap.size + 3) w2 w3 := ((Below.refl (w.heap.size + 3) w2).alloc (by omega) _).grown hgrow (by simp; omega) (fun b' hb' => (hO2.out.lt b' hb').1); replace ka := (hX.cell (p := ⟨w.heap.size, 0, none⟩) (by simp)).trans ka; replace r0 := (hX.cell (p := ⟨w.heap.size + 1 + 1, 0, none⟩) (by simp)).trans r0; replace rf := (hX.frozen (p := ⟨w.heap.size + 1 + 1, 0, none⟩) (by simp)).trans rf; have hown3 := Lib.hid hown'; have hbw3 := Lib.hid (hbw2.out.trans (hX.mono (by omega))); have s4 := hX.size; clear hown' hgrow hX)
      go_roundg (m - (k + 1))
      case measure => omega
      case rel => exact ⟨k + 1, _, _, by omega, by go_num, rfl, Lib.hid (by
          have := hown3.out
          rw [htkH.out, ← List.append_assoc, plCells_snoc]
          exact this), hbw3, by omega, ka, r0, rf⟩
    · obtain rfl : k = m := by omega
      have hLL : (xs ++ ms).length = n + k := by rw [List.length_append, hlA.out, hlC.out]
      have hO1 := hO.out
      rw [List.take_of_length_le (by have := hlC.out; omega), ← hLL] at hO1
      obtain ⟨A5, c5, hv, hrd⟩ := rdP_of_row hO1
      injection hv with h1 h2 h3
      subst h1
      rw [hLL] at hrd
      have hrdH := Lib.hid hrd
      have hsz : (sortPl (xs ++ ms)).length = n + k := by rw [sortPl_len, hLL]
      have hszH := Lib.hid hsz
      clear hO1 hrd hLL hsz
      go_wp2_with fail
      refine (assemblyOf_any _ _ _ (xs ++ ms) _ (hrdH.out.below RPl.stable (by exact bel_)) (by omega) (by omega) hap.out).mono ?_
      rintro e w2 ⟨B, c', rfl, hown2, hb2⟩
      rw [hszH.out] at hown2
      have hB2 : Below wr.heap.size wr w2 := by exact bel_
      have s2 := hB2.size
      replace r0 := (hB2.cell (p := ⟨w.heap.size + 1 + 1, 0, none⟩) l2).trans r0
      replace rf := (hB2.frozen (p := ⟨w.heap.size + 1 + 1, 0, none⟩) l2).trans rf
      have l2' : w.heap.size + 1 + 1 < w2.heap.size := by omega
      have hown2H := Lib.hid (ownsRow_baseU hown2 (show w.heap.size + 3 ≤ wr.heap.size by omega))
      have hbw2 := Lib.hid (hbw.out.trans (Below.mono hB2 hbw.out.size))
      clear hb2 hB2 hown2
      rw [hszH.out]
      go_wp2
      refine bodyPost_ret (v := .tuple #[.agg #[.slice B (n + k) c'], .bool true]) (by simp only [results, Try.results37]; go_simp) rfl ?_
      refine ⟨B, c', by rw [hszH.out], ?_, hbw2.out.setCell (p := ⟨w.heap.size + 1 + 1, 0, none⟩) (by simp; omega) _⟩
      rw [hszH.out]
      exact ownsRow_baseU (ownsRow_setCell_below hown2H.out (by simp) _) (by omega)
end Go.Proofs.Ytpnahobgmemdjaa
/- Walks: steps, directions, the program's and the reference's. -/

namespace Go.Proofs.Ytpnahobgmemdjaa
open Go.RowKit
attribute [local go_sem] BelowBy.cell BelowBy.cell_drew stillUpon givesUpon

theorem ValidPoint_v {x y : Int} {v : Bool} (w : World) (h : validPt x y = v) :
    Calls Try.prog 66 #[.agg #[.int .i64 x, .int .i64 y]] w fun e w' => e = .returned (.bool v) ∧ Below w.heap.size w w' := by
  rw [← h]; exact ValidPoint_any _ _ _
theorem l01Point_v {x y : Int} {v : Bool} (w : World) (h : validPt x y = v) :
    Calls Try.prog 38 #[.agg #[.int .i64 x, .int .i64 y]] w fun e w' => e = .returned (.bool v) ∧ Below w.heap.size w w' := by
  rw [← h]; exact l01Point_any _ _ _
theorem l01Dir_v {d : Int} {v : Bool} (w : World) (h : inB d 0 3 = v) :
    Calls Try.prog 39 #[.int .i64 d] w fun e w' => e = .returned (.bool v) ∧ w = w' := by
  rw [← h]; exact l01Dir_any _ _
theorem plus_i (a b c d : Int) (w : World) (h1 : -1000000 ≤ a ∧ a ≤ 1000000) (h2 : -1000000 ≤ b ∧ b ≤ 1000000) (h3 : -1000000 ≤ c ∧ c ≤ 1000000) (h4 : -1000000 ≤ d ∧ d ≤ 1000000) :
    Calls Try.prog 86 #[.agg #[.int .i64 a, .int .i64 b], .agg #[.int .i64 c, .int .i64 d]] w fun e w' => e = .returned (.agg #[.int .i64 (a + c), .int .i64 (b + d)]) ∧ Below w.heap.size w w' := by
  go_enter Try.func86, Try.ntmps86
  go_wp2
  refine bodyPost_ret (v := .agg #[.int .i64 (a + c), .int .i64 (b + d)]) (by simp only [results, Try.results86]; go_simp) rfl ?_
  exact ⟨rfl, by exact bel_⟩
theorem validPt_iff {x y : Int} : validPt x y = true ↔ (-60 ≤ x ∧ x ≤ 60) ∧ (-60 ≤ y ∧ y ≤ 60) := by
  simp only [validPt, Bool.and_eq_true, inB_true]
set_option maxRecDepth 100000 in
theorem step_i (x y d : Int) (w : World) (hd : 0 ≤ d ∧ d ≤ 3) (hx : -1000 ≤ x ∧ x ≤ 1000) (hy : -1000 ≤ y ∧ y ≤ 1000) :
    Calls Try.prog 69 #[.agg #[.int .i64 x, .int .i64 y], .int .i64 d] w fun e w' => e = .returned (.agg #[.int .i64 (stepX x d), .int .i64 (stepY y d)]) ∧ Below w.heap.size w w' := by
  have : d = 0 ∨ d = 1 ∨ d = 2 ∨ d = 3 := by omega
  have hi0 : ∀ W, (Instr.index 110 (.agg #[.int .i64 0, .int .i64 1, .int .i64 1, .int .i64 0, .int .i64 0, .int .i64 (-1), .int .i64 (-1), .int .i64 0]) (.int .i64 0)).run Try.prog W = .ok (.agg #[.int .i64 0, .int .i64 1]) W := fun W => by kernel_rfl
  have hi1 : ∀ W, (Instr.index 110 (.agg #[.int .i64 0, .int .i64 1, .int .i64 1, .int .i64 0, .int .i64 0, .int .i64 (-1), .int .i64 (-1), .int .i64 0]) (.int .i64 1)).run Try.prog W = .ok (.agg #[.int .i64 1, .int .i64 0]) W := fun W => by kernel_rfl
  have hi2 : ∀ W, (Instr.index 110 (.agg #[.int .i64 0, .int .i64 1, .int .i64 1, .int .i64 0, .int .i64 0, .int .i64 (-1), .int .i64 (-1), .int .i64 0]) (.int .i64 2)).run Try.prog W = .ok (.agg #[.int .i64 0, .int .i64 (-1)]) W := fun W => by kernel_rfl
  have hi3 : ∀ W, (Instr.index 110 (.agg #[.int .i64 0, .int .i64 1, .int .i64 1, .int .i64 0, .int .i64 0, .int .i64 (-1), .int .i64 (-1), .int .i64 0]) (.int .i64 3)).run Try.prog W = .ok (.agg #[.int .i64 (-1), .int .i64 0]) W := fun W => by kernel_rfl
  obtain ⟨hx1, hx2⟩ := hx
  obtain ⟨hy1, hy2⟩ := hy
  clear hd
  rcases this with rfl | rfl | rfl | rfl
  · show Calls Try.prog 69 #[.agg #[.int .i64 x, .int .i64 y], .int .i64 0] w fun e w' => e = .returned (.agg #[.int .i64 (x), .int .i64 (y + 1)]) ∧ Below w.heap.size w w'
    go_enter Try.func69, Try.ntmps69
    go_wp2_with (go_at_call 86; refine (plus_i _ _ _ _ _ ⟨by omega, by omega⟩ ⟨by omega, by omega⟩ ⟨by omega, by omega⟩ ⟨by omega, by omega⟩).mono ?_; rintro e w1 ⟨rfl, hb1⟩; obtain ⟨chb1, fhb1, shb1, thb1⟩ := bcell hb1)
    refine bodyPost_ret (v := .agg #[.int .i64 (x), .int .i64 (y + 1)]) (by simp only [results, Try.results69]; go_simp) rfl ?_
    exact ⟨rfl, by exact bel_⟩
  · show Calls Try.prog 69 #[.agg #[.int .i64 x, .int .i64 y], .int .i64 1] w fun e w' => e = .returned (.agg #[.int .i64 (x + 1), .int .i64 (y)]) ∧ Below w.heap.size w w'
    go_enter Try.func69, Try.ntmps69
    go_wp2_with (go_at_call 86; refine (plus_i _ _ _ _ _ ⟨by omega, by omega⟩ ⟨by omega, by omega⟩ ⟨by omega, by omega⟩ ⟨by omega, by omega⟩).mono ?_; rintro e w1 ⟨rfl, hb1⟩; obtain ⟨chb1, fhb1, shb1, thb1⟩ := bcell hb1)
    refine bodyPost_ret (v := .agg #[.int .i64 (x + 1), .int .i64 (y)]) (by simp only [results, Try.results69]; go_simp) rfl ?_
    exact ⟨rfl, by exact bel_⟩
  · show Calls Try.prog 69 #[.agg #[.int .i64 x, .int .i64 y], .int .i64 2] w fun e w' => e = .returned (.agg #[.int .i64 (x), .int .i64 (y - 1)]) ∧ Below w.heap.size w w'
    go_enter Try.func69, Try.ntmps69
    go_wp2_with (go_at_call 86; refine (plus_i _ _ _ _ _ ⟨by omega, by omega⟩ ⟨by omega, by omega⟩ ⟨by omega, by omega⟩ ⟨by omega, by omega⟩).mono ?_; rintro e w1 ⟨rfl, hb1⟩; obtain ⟨chb1, fhb1, shb1, thb1⟩ := bcell hb1)
    refine bodyPost_ret (v := .agg #[.int .i64 (x), .int .i64 (y + -1)]) (by simp only [results, Try.results69]; go_simp) rfl ?_
    exact ⟨rfl, by exact bel_⟩
  · show Calls Try.prog 69 #[.agg #[.int .i64 x, .int .i64 y], .int .i64 3] w fun e w' => e = .returned (.agg #[.int .i64 (x - 1), .int .i64 (y)]) ∧ Below w.heap.size w w'
    go_enter Try.func69, Try.ntmps69
    go_wp2_with (go_at_call 86; refine (plus_i _ _ _ _ _ ⟨by omega, by omega⟩ ⟨by omega, by omega⟩ ⟨by omega, by omega⟩ ⟨by omega, by omega⟩).mono ?_; rintro e w1 ⟨rfl, hb1⟩; obtain ⟨chb1, fhb1, shb1, thb1⟩ := bcell hb1)
    refine bodyPost_ret (v := .agg #[.int .i64 (x + -1), .int .i64 (y)]) (by simp only [results, Try.results69]; go_simp) rfl ?_
    exact ⟨rfl, by exact bel_⟩
/-- whether the step is one -/
def stepOk (x y d : Int) : Bool := validPt x y && (inB d 0 3 && validPt (stepX x d) (stepY y d))
theorem stepOk_spec {x y d : Int} (h : stepOk x y d = true) : validPt x y = true ∧ inB d 0 3 = true ∧ validPt (stepX x d) (stepY y d) = true := by
  simpa only [stepOk, Bool.and_eq_true] using h
theorem step_v {x y d X Y : Int} (w : World) (hd : inB d 0 3 = true) (hv : validPt x y = true) (hX : stepX x d = X) (hY : stepY y d = Y) :
    Calls Try.prog 69 #[.agg #[.int .i64 x, .int .i64 y], .int .i64 d] w fun e w' => e = .returned (.agg #[.int .i64 X, .int .i64 Y]) ∧ Below w.heap.size w w' := by
  obtain ⟨⟨h1, h2⟩, h3, h4⟩ := validPt_iff.1 hv
  rw [← hX, ← hY]
  exact step_i x y d w (inB_true.1 hd) ⟨by omega, by omega⟩ ⟨by omega, by omega⟩
theorem lstep_v {x y d X Y : Int} (w : World) (hd : inB d 0 3 = true) (hv : validPt x y = true) (hX : stepX x d = X) (hY : stepY y d = Y) :
    Calls Try.prog 40 #[.agg #[.int .i64 x, .int .i64 y], .int .i64 d] w fun e w' => e = .returned (.agg #[.int .i64 X, .int .i64 Y]) ∧ Below w.heap.size w w' := by
  obtain ⟨⟨h1, h2⟩, h3, h4⟩ := validPt_iff.1 hv
  rw [← hX, ← hY]
  exact l01Step_any x y d w (inB_true.1 hd) ⟨by omega, by omega⟩ ⟨by omega, by omega⟩
end Go.Proofs.Ytpnahobgmemdjaa
/- Walks: StepPoint, the program's and the reference's. -/

namespace Go.Proofs.Ytpnahobgmemdjaa
open Go.RowKit
attribute [local go_sem] BelowBy.cell BelowBy.cell_drew stillUpon givesUpon

set_option maxRecDepth 100000 in
set_option maxHeartbeats 1000000 in
theorem lStep_ok {x y d X Y : Int} (w : World) (h1 : validPt x y = true) (h2 : inB d 0 3 = true) (h3 : validPt X Y = true) (hX : stepX x d = X) (hY : stepY y d = Y) :
    Calls Try.prog 11 #[.agg #[.int .i64 x, .int .i64 y], .int .i64 d] w fun e w' => e = .returned (.tuple #[.agg #[.int .i64 X, .int .i64 Y], .int .i64 0]) ∧ Below w.heap.size w w' := by
  have h1H := Lib.hid h1
  clear h1
  have h2H := Lib.hid h2
  clear h2
  have h3H := Lib.hid h3
  clear h3
  have hXH := Lib.hid hX
  clear hX
  have hYH := Lib.hid hY
  clear hY
  go_enter Try.func11, Try.ntmps11
  go_wp2_with fail
  refine (l01Point_v _ h1H.out).mono ?_; rintro e w1 ⟨rfl, hb1⟩; obtain ⟨chb1, fhb1, shb1, thb1⟩ := bcell hb1
  have sa1 := shb1 w.heap.size (by go_simp)
  have sc1 := shb1 (w.heap.size + 1) (by go_simp)
  go_wp2_with fail
  refine (l01Dir_v _ h2H.out).mono ?_; rintro e _ ⟨rfl, rfl⟩
  go_wp2_with fail
  refine (lstep_v _ h2H.out h1H.out hXH.out hYH.out).mono ?_; rintro e w2 ⟨rfl, hb2⟩; obtain ⟨chb2, fhb2, shb2, thb2⟩ := bcell hb2
  have sa2 := shb2 _ sa1
  have sc2 := shb2 _ sc1
  go_wp2_with fail
  refine (l01Point_v _ h3H.out).mono ?_; rintro e w3 ⟨rfl, hb3⟩; obtain ⟨chb3, fhb3, shb3, thb3⟩ := bcell hb3
  have sa3 := shb3 w.heap.size (by simp only [World.size_alloc]; omega)
  have sc3 := shb3 (w.heap.size + 1) (by simp only [World.size_alloc]; omega)
  have sq3 := shb3 w2.heap.size (by go_simp)
  have ne1 : ¬ w.heap.size = w2.heap.size := by omega
  have ne2 : ¬ w.heap.size + 1 = w2.heap.size := by omega
  have le1 : w.heap.size ≤ w2.heap.size := by omega
  go_wp2_with fail
  refine bodyPost_ret (v := .tuple #[.agg #[.int .i64 X, .int .i64 Y], .int .i64 0]) (by simp only [results, Try.results11]; go_simp) rfl ?_
  exact ⟨rfl, by exact bel_⟩
set_option maxRecDepth 100000 in
set_option maxHeartbeats 1000000 in
theorem lStep_far {x y d X Y : Int} (w : World) (h1 : validPt x y = true) (h2 : inB d 0 3 = true) (h3 : validPt X Y = false) (hX : stepX x d = X) (hY : stepY y d = Y) :
    Calls Try.prog 11 #[.agg #[.int .i64 x, .int .i64 y], .int .i64 d] w fun e w' => e = .returned (.tuple #[.agg #[.int .i64 0, .int .i64 0], .int .i64 2]) ∧ Below w.heap.size w w' := by
  have h1H := Lib.hid h1
  clear h1
  have h2H := Lib.hid h2
  clear h2
  have h3H := Lib.hid h3
  clear h3
  have hXH := Lib.hid hX
  clear hX
  have hYH := Lib.hid hY
  clear hY
  go_enter Try.func11, Try.ntmps11
  go_wp2_with fail
  refine (l01Point_v _ h1H.out).mono ?_; rintro e w1 ⟨rfl, hb1⟩; obtain ⟨chb1, fhb1, shb1, thb1⟩ := bcell hb1
  have sa1 := shb1 w.heap.size (by go_simp)
  have sc1 := shb1 (w.heap.size + 1) (by go_simp)
  go_wp2_with fail
  refine (l01Dir_v _ h2H.out).mono ?_; rintro e _ ⟨rfl, rfl⟩
  go_wp2_with fail
  refine (lstep_v _ h2H.out h1H.out hXH.out hYH.out).mono ?_; rintro e w2 ⟨rfl, hb2⟩; obtain ⟨chb2, fhb2, shb2, thb2⟩ := bcell hb2
  have sa2 := shb2 _ sa1
  have sc2 := shb2 _ sc1
  go_wp2_with fail
  refine (l01Point_v _ h3H.out).mono ?_; rintro e w3 ⟨rfl, hb3⟩; obtain ⟨chb3, fhb3, shb3, thb3⟩ := bcell hb3
  have sa3 := shb3 w.heap.size (by simp only [World.size_alloc]; omega)
  have sc3 := shb3 (w.heap.size + 1) (by simp only [World.size_alloc]; omega)
  have sq3 := shb3 w2.heap.size (by go_simp)
  have ne1 : ¬ w.heap.size = w2.heap.size := by omega
  have ne2 : ¬ w.heap.size + 1 = w2.heap.size := by omega
  have le1 : w.heap.size ≤ w2.heap.size := by omega
  go_wp2_with fail
  refine bodyPost_ret (v := .tuple #[.agg #[.int .i64 0, .int .i64 0], .int .i64 2]) (by simp only [results, Try.results11]; go_simp) rfl ?_
  exact ⟨rfl, by exact bel_⟩
set_option maxRecDepth 100000 in
set_option maxHeartbeats 1000000 in
theorem lStep_dir {x y d X Y : Int} (w : World) (h1 : validPt x y = true) (h2 : inB d 0 3 = false) :
    Calls Try.prog 11 #[.agg #[.int .i64 x, .int .i64 y], .int .i64 d] w fun e w' => e = .returned (.tuple #[.agg #[.int .i64 0, .int .i64 0], .int .i64 2]) ∧ Below w.heap.size w w' := by
  have h1H := Lib.hid h1
  clear h1
  have h2H := Lib.hid h2
  clear h2
  go_enter Try.func11, Try.ntmps11
  go_wp2_with fail
  refine (l01Point_v _ h1H.out).mono ?_; rintro e w1 ⟨rfl, hb1⟩; obtain ⟨chb1, fhb1, shb1, thb1⟩ := bcell hb1
  have sa1 := shb1 w.heap.size (by go_simp)
  have sc1 := shb1 (w.heap.size + 1) (by go_simp)
  go_wp2_with fail
  refine (l01Dir_v _ h2H.out).mono ?_; rintro e _ ⟨rfl, rfl⟩
  go_wp2_with fail
  refine bodyPost_ret (v := .tuple #[.agg #[.int .i64 0, .int .i64 0], .int .i64 2]) (by simp only [results, Try.results11]; go_simp) rfl ?_
  exact ⟨rfl, by exact bel_⟩
set_option maxRecDepth 100000 in
set_option maxHeartbeats 1000000 in
theorem lStep_pt {x y d X Y : Int} (w : World) (h1 : validPt x y = false) :
    Calls Try.prog 11 #[.agg #[.int .i64 x, .int .i64 y], .int .i64 d] w fun e w' => e = .returned (.tuple #[.agg #[.int .i64 0, .int .i64 0], .int .i64 2]) ∧ Below w.heap.size w w' := by
  have h1H := Lib.hid h1
  clear h1
  go_enter Try.func11, Try.ntmps11
  go_wp2_with fail
  refine (l01Point_v _ h1H.out).mono ?_; rintro e w1 ⟨rfl, hb1⟩; obtain ⟨chb1, fhb1, shb1, thb1⟩ := bcell hb1
  have sa1 := shb1 w.heap.size (by go_simp)
  have sc1 := shb1 (w.heap.size + 1) (by go_simp)
  go_wp2_with fail
  refine bodyPost_ret (v := .tuple #[.agg #[.int .i64 0, .int .i64 0], .int .i64 2]) (by simp only [results, Try.results11]; go_simp) rfl ?_
  exact ⟨rfl, by exact bel_⟩
end Go.Proofs.Ytpnahobgmemdjaa
