import Derived.Test.YtmpmokefgdjnkaaGreatKQ
import Derived.Test.YtmpmokefgdjnkaaGreatKZ
import Derived.Test.YtmpmokefgdjnkaaGreatKT
import Derived.Test.YtmpmokefgdjnkaaGreatHTo
import Derived.Test.YtmpmokefgdjnkaaGreatKW
import Derived.Test.YtmpmokefgdjnkaaGreatKX
import Derived.Test.YtmpmokefgdjnkaaGreatKY
import Derived.Test.YtmpmokefgdjnkaaGreatKO
set_option linter.unusedSimpArgs false
set_option linter.unusedVariables false
/- Walks: the area, the program and the reference. -/


namespace Go.Proofs.YtmpmokefgdjnkaaGreat
open Go.RowKit
attribute [local go_sem] BelowBy.cell BelowBy.cell_drew stillUpon givesUpon

theorem ptsRd {W : World} {base : Nat} {A : Option Addr} {n c : Nat} {bs : List Pt} (h : W.ownsRow base 89 2 (.slice A n c) n (ptCells bs)) (hn : n = bs.length) : RdSl 2 RPt W A n bs := by
  subst hn
  obtain ⟨A', cap, e, h'⟩ := rdPt_of_row h
  cases e
  exact h'
theorem ptA_rng {gs : List Gl} {ts : List Ti} {ys : List Pl} (hV : Valid gs ts ys) : ∀ k, (-60 ≤ (ptA (ys.map toPt) k).x ∧ (ptA (ys.map toPt) k).x ≤ 60) ∧ (-60 ≤ (ptA (ys.map toPt) k).y ∧ (ptA (ys.map toPt) k).y ≤ 60) := by
  intro k
  unfold ptA
  rw [List.getElem?_map]
  cases h : ys[k]? with
  | none => simp
  | some e =>
    have := hV.pt k e h
    simp only [Option.map_some, Option.getD_some, toPt]
    omega
set_option maxRecDepth 100000 in
set_option maxHeartbeats 2000000 in
theorem area_any {C : Option Addr} {k cc : Nat} {gs : List Gl} {ts : List Ti} {ys : List Pl} {w : World} (h : RdSl 3 RPl w C k ys) (hk : k ≤ 100000) (h0 : 0 < k) (hV : Valid gs ts ys) {r : Int} (hr : areaI (bxN (ys.map toPt) k) = r) :
    Calls Tryz.prog 26 #[.agg #[.slice C k cc]] w fun e w' => e = .returned (.int .i64 r) ∧ Below w.heap.size w w' := by
  have hH := Lib.hid h
  have hkl : (ys.map toPt).length = k := by rw [List.length_map, h.len]
  have hrg := Lib.hid (bxN_rng (ptA_rng hV) k)
  have hP := Lib.hid (points_any (cc := cc) (hH.out.below RPl.stable (show Below w.heap.size w (w.alloc (Obj.cells #[.slice C k cc] 43)) from by exact bel_)) hk)
  rw [← hkl] at hr hrg h0
  rw [← hkl] at hk
  rw [← hkl] at hP
  rw [← hkl]
  clear h hH hV hkl
  generalize ys.map toPt = l at *
  obtain ⟨B, hB⟩ : ∃ B, bxN l l.length = B := ⟨_, rfl⟩
  rw [hB] at hr hrg
  obtain ⟨b1, b2, b3, b4⟩ := hrg.out
  obtain ⟨a1, a2, a3, a4, a5⟩ := areaI_wraps b1 b2 b3 b4
  have hrH := Lib.hid hr
  have hBH := Lib.hid hB
  clear hr b1 b2 b3 b4 hrg hB
  go_enter Tryz.func26, Tryz.ntmps26
  go_wp2_with fail
  refine hP.out.mono ?_
  rintro e w1 ⟨A2, c2, rfl, hrow, hb1⟩
  have hrd := Lib.hid (ptsRd hrow rfl)
  have k1 := Lib.hid (show Below w.heap.size w w1 from by exact bel_)
  clear hrow hb1
  go_wp2_with fail
  refine (bounds_any hrd.out h0 hk).mono ?_
  rw [hBH.out]
  rintro e w2 ⟨rfl, hb2⟩
  have k2 := Lib.hid (show Below w.heap.size w w2 from k1.out.trans (hb2.mono k1.out.size))
  clear hb2
  go_wp2
  go_ret
  refine ⟨ret_int hrH.out, ?_⟩
  exact (k2.out.alloc k2.out.size _).alloc (by simp only [World.size_alloc]; have := k2.out.size; omega) _
end Go.Proofs.YtmpmokefgdjnkaaGreat
/- Walks: the points of an assembly and the area, the reference. -/

namespace Go.Proofs.YtmpmokefgdjnkaaGreat
open Go.RowKit
attribute [local go_sem] BelowBy.cell BelowBy.cell_drew stillUpon givesUpon

set_option maxRecDepth 100000 in
set_option maxHeartbeats 2000000 in
theorem l03Points_any {pa oa k : Nat} {ys : List Pl} {w : World} (hA : AsmAt w pa oa ys) (hk : ys.length = k) (hk5 : k ≤ 100000) :
    Calls Tryz.prog 40 #[.pointer (some ⟨pa, oa, none⟩)] w (PtsOwn w (ys.map toPt)) := by
  obtain ⟨i0, hi, hz0, hz1, hz2⟩ := info_parts infoPtW
  have hAH := Lib.hid hA
  have hlA := hA.lt
  clear hA
  go_enter Tryz.func40, Tryz.ntmps40
  go_wp2
  go_loopg [4, 3] k (fun gk i v wr => ∃ (j : Nat) (A2 : Option Addr) (c2 : Nat), j + gk = k ∧ i = .int .i64 (j : Int) ∧ v = .slice A2 j c2 ∧ Hid (wr.ownsRow w.heap.size 89 2 (.slice A2 j c2) j (ptCells ((ys.map toPt).take j))) ∧ Hid (Below w.heap.size w wr))
  case atStart => exact ⟨0, some ⟨w.heap.size, 0, none⟩, 0, by omega, rfl, rfl, Lib.hid (by have := World.ownsRow_lit (base := w.heap.size) (e := 89) (size := 2) w #[] 0 (Nat.le_refl _) (by decide) rfl; simpa [ptCells] using this), Lib.hid (bl_al (bl_refl _) _)⟩
  case round =>
    obtain ⟨j, A2, c2, hj, rfl, rfl, hrow, hbw⟩ := hrel
    have hsz := hbw.out.size
    obtain ⟨hlt, C, kk, cc, y1, hC⟩ := hAH.out.below hbw.out
    obtain rfl : kk = k := by rw [← hC.len, hk]
    by_cases hjk : j < kk
    · obtain ⟨e, he⟩ := hC.get hjk
      obtain ⟨b, ob, hCe, hb, hc⟩ := hC.ptr (by omega)
      obtain ⟨d0, d1, d2⟩ := hc j e he
      subst hCe
      have hjI : (j : Int) < (kk : Int) := by omega
      have hj0 : (0 : Int) ≤ (j : Int) := by omega
      have hb' : b ≤ wr.heap.size := by omega
      have hn := Lib.hid (show (ys.map toPt).take (j + 1) = (ys.map toPt).take j ++ [⟨e.x, e.y⟩] by rw [List.take_add_one, List.getElem?_map, he]; rfl)
      clear hc he hC
      go_wp2_with (at_builtin; go_loud (refine wpList_append_own _ rfl _ _ 92 rfl w.heap.size 89 i0 (.agg #[.int .i64 0, .int .i64 0]) 2 16 Tryz.underlying92 hi hz0 hz1 hz2 rfl (by decide) _ j _ rfl (hrow.out.alloc _) ⟨wr.heap.size, 0, none⟩ 1 1 [.int .i64 e.x, .int .i64 e.y] rfl rfl (cell_two_new _ _ _ _) (fun x hx => by simp at hx; rcases hx with rfl | rfl <;> rfl) (by unfold maxLen; omega) (by omega) (by (try simp only [World.size_alloc, World.size_drew]); omega) ?_; intro v' w4 hown' hgrow _; obtain ⟨A5, c5, rfl⟩ := ownsRow_form hown'; have hownH := Lib.hid hown'; have hb4 := Lib.hid (below_app (B0 := w.heap.size) (by (try simp only [World.size_drew]); omega) (fun g e => (hrow.out.lt g e).1) hgrow); clear hown' hgrow))
      go_wp2
      go_roundg (kk - (j + 1))
      case measure => omega
      case rel => exact ⟨j + 1, A5, c5, by omega, by go_num, rfl, Lib.hid (by rw [hn.out, ptCells_snoc]; exact hownH.out), Lib.hid (hbw.out.trans hb4.out)⟩
    · obtain rfl : j = kk := by omega
      have hjE : ¬ (j : Int) < (j : Int) := by omega
      have ht := Lib.hid (show (ys.map toPt).take j = ys.map toPt from List.take_of_length_le (by rw [List.length_map, hk]; exact Nat.le_refl _))
      have hln := Lib.hid (show (ys.map toPt).length = j by rw [List.length_map, hk])
      go_wp2
      go_ret
      exact ⟨A2, c2, by rw [hln.out]; first | done | rfl, by rw [hln.out]; have := hrow.out; rw [ht.out] at this; exact this, hbw.out⟩
/-- the area as the reference reckons it -/
def areaOf (ys : List Pl) : Int := if ys.length = 0 then 0 else areaI (bxN (ys.map toPt) ys.length)
set_option maxRecDepth 100000 in
set_option maxHeartbeats 2000000 in
theorem l34Area_any {pa oa k : Nat} {gs : List Gl} {ts : List Ti} {ys : List Pl} {w : World} (hA : AsmAt w pa oa ys) (hk : ys.length = k) (hk5 : k ≤ 100000) (hV : Valid gs ts ys) {r : Int} (hr : areaOf ys = r) :
    Calls Tryz.prog 16 #[.pointer (some ⟨pa, oa, none⟩)] w fun e w' => e = .returned (.int .i64 r) ∧ Below w.heap.size w w' := by
  have hP := Lib.hid (l03Points_any hA hk hk5)
  obtain ⟨hlt, C, kk, cc, y1, hC⟩ := hA
  obtain rfl : kk = k := by rw [← hC.len, hk]
  clear hC
  by_cases hk0 : kk = 0
  · subst hk0
    have hrH := Lib.hid (show (0 : Int) = r by rw [← hr, areaOf, if_pos hk])
    clear hP hr
    go_enter Tryz.func16, Tryz.ntmps16
    go_wp2
    go_ret
    exact ⟨ret_int hrH.out, bl_refl _⟩
  · have hkI : ¬ (kk : Int) = 0 := by omega
    have hkl : (ys.map toPt).length = kk := by rw [List.length_map, hk]
    have hr2 : areaI (bxN (ys.map toPt) kk) = r := by rw [← hr, areaOf, if_neg (by omega), hk]
    have hrg := Lib.hid (bxN_rng (ptA_rng hV) kk)
    have h0 : 0 < kk := by omega
    clear hr hV
    have hkl2 := Lib.hid hkl
    generalize ys.map toPt = l at *
    obtain ⟨B, hB⟩ : ∃ B, bxN l kk = B := ⟨_, rfl⟩
    rw [hB] at hr2 hrg
    obtain ⟨b1, b2, b3, b4⟩ := hrg.out
    obtain ⟨a1, a2, a3, a4, a5⟩ := areaI_wraps b1 b2 b3 b4
    have hrH := Lib.hid hr2
    have hBH := Lib.hid hB
    clear hr2 b1 b2 b3 b4 hrg hB hkl
    go_enter Tryz.func16, Tryz.ntmps16
    go_wp2_with fail
    refine hP.out.mono ?_
    rintro e w1 ⟨A2, c2, rfl, hrow, hb1⟩
    have hrd := Lib.hid (ptsRd hrow rfl)
    have k1 := Lib.hid (show Below w.heap.size w w1 from hb1)
    clear hrow hb1
    rw [hkl2.out] at hrd ⊢
    go_wp2_with fail
    refine (l03Bounds_any hrd.out h0 hk5).mono ?_
    rw [hBH.out]
    rintro e w2 ⟨rfl, hb2⟩
    have k2 := Lib.hid (show Below w.heap.size w w2 from k1.out.trans (hb2.mono k1.out.size))
    clear hb2
    go_wp2
    go_ret
    refine ⟨ret_int hrH.out, ?_⟩
    exact (k2.out.alloc k2.out.size _).alloc (by simp only [World.size_alloc]; have := k2.out.size; omega) _
end Go.Proofs.YtmpmokefgdjnkaaGreat
/- Plain: the kinds of tiles and the glues that are used. -/



namespace Go.Proofs.YtmpmokefgdjnkaaGreat
open Go.RowKit
/-- how often each of m tiles is among the first k places -/
def cntL (ys : List Pl) (m : Nat) : Nat → List Int
  | 0 => List.replicate m 0
  | k + 1 => match ys[k]? with
    | some e => (cntL ys m k).set e.t.toNat ((cntL ys m k)[e.t.toNat]?.getD 0 + 1)
    | none => cntL ys m k
theorem cntL_len (ys : List Pl) (m : Nat) : ∀ k, (cntL ys m k).length = m
  | 0 => List.length_replicate ..
  | k + 1 => by
    simp only [cntL]
    split
    · rw [List.length_set, cntL_len ys m k]
    · exact cntL_len ys m k
theorem cntL_rng (ys : List Pl) (m : Nat) : ∀ k, ∀ v ∈ cntL ys m k, 0 ≤ v ∧ v ≤ (k : Int)
  | 0, v, h => by
    have := List.eq_of_mem_replicate h
    omega
  | k + 1, v, h => by
    simp only [cntL] at h
    cases hy : ys[k]? with
    | none =>
      rw [hy] at h
      have := cntL_rng ys m k v h
      omega
    | some e =>
      rw [hy] at h
      rcases List.mem_or_eq_of_mem_set h with h | h
      · have := cntL_rng ys m k v h
        omega
      · cases hh : (cntL ys m k)[e.t.toNat]? with
        | none => rw [hh] at h; simp at h; omega
        | some u =>
          have := cntL_rng ys m k u (List.mem_of_getElem? hh)
          rw [hh] at h
          simp at h
          omega
/-- how many of the first i counts are not zero -/
def kindN (L : List Int) : Nat → Int
  | 0 => 0
  | i + 1 => kindN L i + if 0 < L[i]?.getD 0 then 1 else 0
theorem kindN_rng (L : List Int) : ∀ i : Nat, 0 ≤ kindN L i ∧ kindN L i ≤ (i : Int)
  | 0 => by simp [kindN]
  | i + 1 => by
    have := kindN_rng L i
    simp only [kindN]
    split <;> omega
theorem kindN_min {L : List Int} {i : Nat} {v : Int} (h : L[i]? = some v) (h0 : 0 ≤ v) : kindN L (i + 1) = kindN L i + mn v 1 := by
  simp only [kindN, h, Option.getD_some]
  unfold mn
  by_cases h1 : 0 < v
  · rw [if_pos h1]
    by_cases h2 : 1 < v
    · rw [if_pos h2]
    · rw [if_neg h2]; omega
  · rw [if_neg h1, if_neg (by omega)]; omega
/-- the glue at a side of a tile, as a number -/
def sideN (ts : List Ti) (t d : Nat) : Nat := (sideV ts t d).toNat
def usedD (ts : List Ti) (t : Nat) (U : List Bool) : Nat → List Bool
  | 0 => U
  | d + 1 => (usedD ts t U d).set (sideN ts t d) true
/-- the glues that the first i tiles use -/
def usedI (ts : List Ti) (ys : List Pl) (n : Nat) : Nat → List Bool
  | 0 => List.replicate (n + 1) false
  | i + 1 => match ys[i]? with
    | some e => usedD ts e.t.toNat (usedI ts ys n i) 4
    | none => usedI ts ys n i
theorem usedD_len (ts : List Ti) (t : Nat) (U : List Bool) : ∀ d, (usedD ts t U d).length = U.length
  | 0 => rfl
  | d + 1 => by simp only [usedD]; rw [List.length_set, usedD_len ts t U d]
theorem usedI_len (ts : List Ti) (ys : List Pl) (n : Nat) : ∀ i, (usedI ts ys n i).length = n + 1
  | 0 => List.length_replicate ..
  | i + 1 => by
    simp only [usedI]
    split
    · rw [usedD_len, usedI_len ts ys n i]
    · exact usedI_len ts ys n i
/-- how many of the first k are true -/
def cntB (U : List Bool) : Nat → Nat
  | 0 => 0
  | k + 1 => cntB U k + if U[k]? = some true then 1 else 0
theorem cntB_le (U : List Bool) : ∀ k, cntB U k ≤ k
  | 0 => Nat.le_refl _
  | k + 1 => by
    have := cntB_le U k
    simp only [cntB]
    split <;> omega
theorem cntB_far {U : List Bool} {g : Nat} {b : Bool} : ∀ k, k ≤ g → cntB (U.set g b) k = cntB U k
  | 0, _ => rfl
  | k + 1, h => by
    simp only [cntB]
    rw [cntB_far k (by omega), List.getElem?_set_ne (by omega)]
theorem cntB_set {U : List Bool} {g : Nat} (hg : g < U.length) (hf : ¬ U[g]? = some true) : ∀ k, g < k → cntB (U.set g true) k = cntB U k + 1
  | 0, h => absurd h (Nat.not_lt_zero _)
  | k + 1, h => by
    simp only [cntB]
    by_cases hk : g < k
    · rw [cntB_set hg hf k hk, List.getElem?_set_ne (by omega)]
      omega
    · obtain rfl : g = k := by omega
      rw [cntB_far g (Nat.le_refl _), List.getElem?_set_self hg, if_pos rfl, if_neg hf]
theorem set_same {U : List Bool} {g : Nat} (h : U[g]? = some true) : U.set g true = U := by
  apply List.ext_getElem?
  intro i
  by_cases hi : g = i
  · subst hi
    rw [List.getElem?_set_self (List.getElem?_eq_some_iff.1 h).1, h]
  · rw [List.getElem?_set_ne hi]
/-- how many glues but the null one are used -/
def glueN (U : List Bool) : Nat := cntB (U.set 0 false) U.length
theorem glueN_new {U : List Bool} {g : Nat} (h0 : 0 < g) (hg : g < U.length) (hf : ¬ U[g]? = some true) : glueN (U.set g true) = glueN U + 1 := by
  unfold glueN
  rw [List.length_set, List.set_comm _ _ (by omega)]
  exact cntB_set (by rw [List.length_set]; exact hg) (by rw [List.getElem?_set_ne (by omega)]; exact hf) _ hg
theorem glueN_null {U : List Bool} {b : Bool} : glueN (U.set 0 b) = glueN U := by
  unfold glueN
  rw [List.length_set, List.set_set]
end Go.Proofs.YtmpmokefgdjnkaaGreat
/- Walks: how often each tile is used, the program and the reference. -/



namespace Go.Proofs.YtmpmokefgdjnkaaGreat
open Go.RowKit
attribute [local go_sem] BelowBy.cell BelowBy.cell_drew stillUpon givesUpon

/-- a row of numbers of the call's own, in a block of its own -/
def CntRow (w : World) (L : List Int) (b : Nat) (w' : World) : Prop :=
  w.heap.size ≤ b ∧ w'.rowIs b 2 L.length (fun i => .int .i64 (L[i]?.getD 0)) ∧ Below w.heap.size w w'
theorem cnt_step {ys : List Pl} {m j tt : Nat} {e : Pl} (he : ys[j]? = some e) (ht : e.t = (tt : Int)) (htm : tt < m) (i : Nat) :
    (if i = tt then Value.int .i64 ((cntL ys m j)[tt]?.getD 0 + 1) else .int .i64 ((cntL ys m j)[i]?.getD 0)) = .int .i64 ((cntL ys m (j + 1))[i]?.getD 0) := by
  simp only [cntL, he]
  have hn : e.t.toNat = tt := by rw [ht]; exact Int.toNat_natCast tt
  rw [hn]
  by_cases hi : i = tt
  · subst hi
    rw [if_pos rfl, List.getElem?_set_self (by rw [cntL_len]; exact htm)]
    rfl
  · rw [if_neg hi, List.getElem?_set_ne (fun h => hi h.symm)]
theorem cnt_rng (ys : List Pl) (m j i : Nat) (hj : j ≤ 500) : 0 ≤ (cntL ys m j)[i]?.getD 0 ∧ (cntL ys m j)[i]?.getD 0 ≤ 500 := by
  cases h : (cntL ys m j)[i]? with
  | none => simp
  | some v =>
    have := cntL_rng ys m j v (List.mem_of_getElem? h)
    simp only [Option.getD_some]
    omega
theorem cnt_zero (ys : List Pl) (m i : Nat) : (cntL ys m 0)[i]?.getD 0 = 0 := by
  simp only [cntL]
  cases h : (List.replicate m (0 : Int))[i]? with
  | none => rfl
  | some v => exact List.eq_of_mem_replicate (List.mem_of_getElem? h)
theorem cnt_made (w : World) (ys : List Pl) (m : Nat) : (w.alloc (.cells (madeCells #[Value.int .i64 0] m) 2)).rowIs w.heap.size 2 m (fun i => .int .i64 ((cntL ys m 0)[i]?.getD 0)) := by
  exact World.rowIs.congr (World.rowIs_made w (.int .i64 0) m 2) (fun i hi => by simp only [cnt_zero])
set_option maxRecDepth 100000 in
set_option maxHeartbeats 2000000 in
theorem CountTiles_any {G T C : Option Addr} {n cg m ct k cc : Nat} {gs : List Gl} {ts : List Ti} {ys : List Pl} {w : World} (h : SA w G n T m C k gs ts ys) (hv : validAsmB gs ts ys = true) :
    Calls Tryz.prog 29 #[.agg #[.slice G n cg, .slice T m ct], .agg #[.slice C k cc]] w fun e w' => ∃ b, e = .returned (.tuple #[.slice (some ⟨b, 0, none⟩) m m, .int .i64 0]) ∧ CntRow w (cntL ys m k) b w' := by
  have hS := Lib.hid h
  have hV := valid_of hv
  have hvH := Lib.hid hv
  have hmk := fun W => run_makeN (P := Tryz.prog) 58 2 _ 1 8 Tryz.underlying58 infoI m (by have := h.tm; omega) (by have := h.tm; omega) W
  have htl : ts.length = m := h.T.len
  have hk5 : k ≤ 500 := by rw [← h.A.len]; exact hV.len
  have hm5 : m ≤ 1073741824 := h.tm
  have hCl := Lib.hid (show (cntL ys m k).length = m from cntL_len ys m k)
  clear h hv
  go_enter Tryz.func29, Tryz.ntmps29
  go_wp2_with fail
  refine ((hS.out.below (by exact bel_)).valid hvH.out).mono ?_
  rintro e w1 ⟨rfl, hb1⟩
  obtain ⟨chb1, fhb1, shb1, thb1⟩ := bcell hb1
  have sa1 := shb1 w.heap.size (by go_simp)
  have sc1 := shb1 (w.heap.size + 1) (by go_simp)
  have k1 := Lib.hid (show Below w.heap.size w w1 from by exact bel_)
  go_wp2_with fail
  have hmade := Lib.hid (cnt_made w1 ys m)
  have k2 := Lib.hid (show Below w.heap.size w (w1.alloc (.cells (madeCells #[Value.int .i64 0] m) 2)) from k1.out.alloc k1.out.size _)
  have hS1 := Lib.hid (hS.out.below k2.out)
  obtain ⟨bb, hbb⟩ : ∃ bb, w1.heap.size = bb := ⟨_, rfl⟩
  have hbw : w.heap.size ≤ bb := by omega
  clear chb1 fhb1 shb1 thb1
  rw [hbb]
  rw [hbb] at hmade
  clear hbb
  go_loopg [20] k (fun g i wr => ∃ j : Nat, j + g = k ∧ i = .int .i64 (j : Int) ∧ Hid (Below w.heap.size w wr) ∧ Hid (wr.rowIs bb 2 m (fun i => .int .i64 ((cntL ys m j)[i]?.getD 0))))
  case atStart => exact ⟨0, by omega, rfl, k2, hmade⟩
  case round =>
    obtain ⟨j, hj, rfl, hbr, hrow⟩ := hrel
    by_cases hjk : j < k
    · have hA := (hS.out.below hbr.out).A
      obtain ⟨e, he⟩ := hA.get hjk
      obtain ⟨tt, htt, htm⟩ := hV.ti j e he
      rw [htl] at htm
      obtain ⟨b, o, hCe, hb, hc⟩ := hA.ptr (by omega)
      obtain ⟨d0, d1, d2⟩ := hc j e he
      subst hCe
      have hjI : (j : Int) < (k : Int) := by omega
      have hj0 : (0 : Int) ≤ (j : Int) := by omega
      have hb' : b ≤ wr.heap.size := by omega
      have htI : (tt : Int) < (m : Int) := by omega
      have ht0 : (0 : Int) ≤ (tt : Int) := by omega
      have hstep := Lib.hid (fun i => cnt_step (ys := ys) (m := m) he htt htm i)
      have hrg := cnt_rng ys m j tt (by omega)
      have r0 := hrow.out.cell htm
      have r1 := hrow.out.frozen tt
      have r2 := hrow.out.lt
      generalize hx : (cntL ys m j)[tt]?.getD 0 = x at r0 hrg
      have hxH := Lib.hid hx
      have hw1 : IntKind.i64.wrap (x + 1) = x + 1 := by simp [IntKind.wrap, IntKind.bits, IntKind.signed]; omega
      have hne : ¬ bb = wr.heap.size := by omega
      rw [htt] at d2
      clear hc he hA hx
      go_wp2
      go_roundg (k - (j + 1))
      case measure => omega
      case rel =>
        exact ⟨j + 1, by omega, by go_num, Lib.hid ((hbr.out.setCell (p := ⟨bb, tt, none⟩) hbw _).alloc (by simp only [World.size_setCell]; omega) _),
          Lib.hid (((hrow.out.set tt _).congr (fun i hi => by have := hstep.out i; rw [hxH.out] at this; exact this)).alloc _)⟩
    · obtain rfl : j = k := by omega
      go_wp2
      refine bodyPost_ret (v := .tuple #[.slice (some ⟨bb, 0, none⟩) m m, .int .i64 0]) (by simp only [results, Tryz.results29]; go_simp) rfl ?_
      refine ⟨bb, rfl, hbw, ?_, hbr.out⟩
      rw [hCl.out]
      exact hrow.out
set_option maxRecDepth 100000 in
set_option maxHeartbeats 2000000 in
theorem l34Counts_any {p op pa oa k m : Nat} {gs : List Gl} {ts : List Ti} {ys : List Pl} {w : World} (hs : SetAt w p op gs ts) (ha : AsmAt w pa oa ys) (hV : Valid gs ts ys) (hk : ys.length = k) (hm : ts.length = m) :
    Calls Tryz.prog 17 #[.pointer (some ⟨p, op, none⟩), .pointer (some ⟨pa, oa, none⟩)] w fun e w' => ∃ b, e = .returned (.slice (some ⟨b, 0, none⟩) m m) ∧ CntRow w (cntL ys m k) b w' := by
  have hk5 : k ≤ 500 := by rw [← hk]; exact hV.len
  have hm5 : m ≤ 160 := by rw [← hm]; exact hV.tl
  have hmk := fun W => run_makeN (P := Tryz.prog) 58 2 _ 1 8 Tryz.underlying58 infoI m (by omega) (by omega) W
  have hCl := Lib.hid (show (cntL ys m k).length = m from cntL_len ys m k)
  have haH := Lib.hid ha
  have hsH := Lib.hid hs
  obtain ⟨hlt, _, ⟨T, mm, ct, t1, hT⟩⟩ := hs
  obtain rfl : mm = m := by rw [← hT.len, hm]
  have hlA := ha.lt
  clear ha hT
  go_enter Tryz.func17, Tryz.ntmps17
  go_wp2
  have hmade := Lib.hid (cnt_made w ys mm)
  have k2 := Lib.hid (show Below w.heap.size w (w.alloc (.cells (madeCells #[Value.int .i64 0] mm) 2)) from bl_al (bl_refl _) _)
  clear t1
  go_loopg [6] k (fun g i wr => ∃ j : Nat, j + g = k ∧ i = .int .i64 (j : Int) ∧ Hid (Below w.heap.size w wr) ∧ Hid (wr.rowIs w.heap.size 2 mm (fun i => .int .i64 ((cntL ys mm j)[i]?.getD 0))))
  case atStart => exact ⟨0, by omega, rfl, k2, hmade⟩
  case round =>
    obtain ⟨j, hj, rfl, hbr, hrow⟩ := hrel
    obtain ⟨hltA, A, kk, ca, y1, hA⟩ := haH.out.below hbr.out
    obtain rfl : kk = k := by rw [← hA.len, hk]
    by_cases hjk : j < kk
    · obtain ⟨e, he⟩ := hA.get hjk
      obtain ⟨tt, htt, htm⟩ := hV.ti j e he
      rw [hm] at htm
      obtain ⟨b, o, hCe, hb, hc⟩ := hA.ptr (by omega)
      obtain ⟨d0, d1, d2⟩ := hc j e he
      subst hCe
      have hjI : (j : Int) < (kk : Int) := by omega
      have hj0 : (0 : Int) ≤ (j : Int) := by omega
      have htI : (tt : Int) < (mm : Int) := by omega
      have ht0 : (0 : Int) ≤ (tt : Int) := by omega
      have hstep := Lib.hid (fun i => cnt_step (ys := ys) (m := mm) he htt htm i)
      have hrg := cnt_rng ys mm j tt (by omega)
      have r0 := hrow.out.cell htm
      have r1 := hrow.out.frozen tt
      have r2 := hrow.out.lt
      generalize hx : (cntL ys mm j)[tt]?.getD 0 = x at r0 hrg
      have hxH := Lib.hid hx
      have hw1 : IntKind.i64.wrap (x + 1) = x + 1 := by simp [IntKind.wrap, IntKind.bits, IntKind.signed]; omega
      rw [htt] at d2
      clear hc he hA hx
      go_wp2
      go_roundg (kk - (j + 1))
      case measure => omega
      case rel =>
        exact ⟨j + 1, by omega, by go_num, Lib.hid (hbr.out.setCell (p := ⟨w.heap.size, tt, none⟩) (Nat.le_refl _) _),
          Lib.hid ((hrow.out.set tt _).congr (fun i hi => by have := hstep.out i; rw [hxH.out] at this; exact this))⟩
    · obtain rfl : j = kk := by omega
      have hjE : ¬ (j : Int) < (j : Int) := by omega
      go_wp2
      go_ret
      refine ⟨w.heap.size, rfl, Nat.le_refl _, ?_, hbr.out⟩
      rw [hCl.out]
      exact hrow.out
end Go.Proofs.YtmpmokefgdjnkaaGreat
/- Walks: the glues that an assembly uses, the program (a map of numbers). -/


namespace Go.Proofs.YtmpmokefgdjnkaaGreat
open Go.RowKit Go.Shelf
attribute [local go_sem] BelowBy.cell BelowBy.cell_drew stillUpon givesUpon
open Go.Maps (Keyed)

/-- block b is the map of the glues of U that are used, but the null glue -/
def GMap (w : World) (b n : Nat) (U : List Bool) : Prop :=
  ∃ D : DataW Unit, w.ownsMap Tryz.prog 2 (plainElem Tryz.prog 4) b n D ∧ Maps.Tidy D ∧ Maps.size D = glueN U ∧ ∀ g : Nat, 0 < g → Maps.has D (.int .i64 (g : Int)) = decide (U[g]? = some true)
theorem GMap.lt {w : World} {b n : Nat} {U : List Bool} (h : GMap w b n U) : b < w.heap.size := by
  obtain ⟨D, h, _⟩ := h
  exact h.lt
theorem GMap.block {w w' : World} {b n : Nat} {U : List Bool} (h : GMap w b n U) (hb : w'.heap[b]? = w.heap[b]?) : GMap w' b n U := by
  obtain ⟨D, ⟨es, clock, hh, r⟩, h2⟩ := h
  exact ⟨D, ⟨es, clock, hb.trans hh, r⟩, h2⟩
theorem GMap.al {w : World} {b n : Nat} {U : List Bool} (h : GMap w b n U) (o : Obj) : GMap (w.alloc o) b n U := h.block (Below.heap_alloc _ _ _ h.lt)
theorem GMap.null {w : World} {b n : Nat} {U : List Bool} (h : GMap w b n U) (v : Bool) : GMap w b n (U.set 0 v) := by
  obtain ⟨D, h1, h2, h3, h4⟩ := h
  refine ⟨D, h1, h2, by rw [glueN_null]; exact h3, fun g hg => ?_⟩
  rw [List.getElem?_set_ne (by omega)]
  exact h4 g hg
theorem GMap.more {w : World} {b n n' : Nat} {U : List Bool} (h : GMap w b n U) (hn : n ≤ n') : GMap w b n' U := by
  obtain ⟨D, ⟨es, clock, hh, F, hc, r⟩, h2⟩ := h
  exact ⟨D, ⟨es, clock, hh, F, Nat.le_trans hc hn, r⟩, h2⟩
theorem cntB_none (k n : Nat) : cntB (List.replicate n false) k = 0 := by
  induction k with
  | zero => rfl
  | succ k ih =>
    simp only [cntB, ih]
    rw [if_neg]
    rw [List.getElem?_replicate]
    split <;> simp
theorem GMap.made (w : World) (n : Nat) : GMap (w.alloc (.map #[] 0)) w.heap.size 0 (List.replicate n false) := by
  refine ⟨_, World.ownsMap_made _ _ _ _, Maps.tidy_empty, ?_, fun g hg => ?_⟩
  · show (0 : Nat) = glueN _
    have : (List.replicate n false).set 0 false = List.replicate n false := by
      apply List.ext_getElem?
      intro i
      by_cases hi : 0 = i
      · subst hi
        rw [List.getElem?_set]
        simp [List.getElem?_replicate]
      · rw [List.getElem?_set_ne hi]
    unfold glueN
    rw [this, cntB_none]
  · rw [List.getElem?_replicate]
    split <;> simp [Maps.has]
theorem wpList_put_gmap (w : World) {ops : Array Oper} {rest : List Oper} {o : Oper} {a : Act} {Q : Exit → Act → World → Prop}
    (hg : o.guard = none) (m x v : Operand) (hop : o.op = Op.mapUpdate 78 m x v) (b n : Nat) (U : List Bool) (hm : a.eval m = .map (some b)) (h : GMap w b n U) (k : Nat) (h0 : 0 < k) (hk : k ≤ 1000000000) (hkU : k < U.length) (hn : n < maxLen) (hx : a.eval x = .int .i64 (k : Int)) (hv : a.eval v = .bool true)
    (hK : ∀ w', GMap w' b (n + 1) (U.set k true) → w.grownBy w' (some b) → wpList Tryz.prog ops Q rest (a.put o.dst undef) w') : wpList Tryz.prog ops Q (o :: rest) a w := by
  obtain ⟨D, hown, ht, hs, hat⟩ := h
  refine wpList_mapUpdate_own w hg m x v 78 hop _ _ int_keyed_ Tryz.underlying78 _ b n D hm hown hn _ _ _ hx hv (Maps.keyOf_int_mk Tryz.underlying2 (wf_small (by omega) (by omega))) _ [] (plainElem_bool Tryz.underlying4 true) ?_
  intro w' h1 h2
  have hkey : WideAt.IsKeyLit (Lit.int .i64 (k : Int)) := by simp [WideAt.IsKeyLit]
  refine hK w' ⟨_, h1, ht.put hkey _, ?_, fun g hg0 => ?_⟩ h2
  · rw [Maps.size_put ht, hat k h0]
    by_cases hu : U[k]? = some true
    · rw [decide_eq_true hu, if_pos rfl, set_same hu]; exact hs
    · rw [decide_eq_false hu, if_neg (by decide), glueN_new h0 hkU hu, hs]
  · by_cases hgk : g = k
    · subst hgk
      rw [Maps.has_put_same hown.isMap hkey, List.getElem?_set_self hkU]
      simp
    · have hne : (Lit.int .i64 (g : Int)) ≠ .int .i64 (k : Int) := by
        intro e
        injection e with _ e
        omega
      rw [Maps.has_put_other hne, List.getElem?_set_ne (fun e => hgk e.symm)]
      exact hat g hg0
theorem side_at {gs : List Gl} {ts : List Ti} {ys : List Pl} (hV : Valid gs ts ys) {t d : Nat} {t0 : Ti} (ht : ts[t]? = some t0) (hd : d < 4) : ∃ g : Nat, t0.sides[d]? = some (g : Int) ∧ sideN ts t d = g ∧ g ≤ gs.length := by
  have h4 := hV.four t t0 ht
  obtain ⟨v, hv⟩ : ∃ v, t0.sides[d]? = some v := ⟨_, List.getElem?_eq_getElem (by omega)⟩
  obtain ⟨g, rfl, hg⟩ := hV.side t t0 d v ht hv
  refine ⟨g, hv, ?_, hg⟩
  unfold sideN sideV
  rw [ht]
  simp [hv]
set_option maxRecDepth 100000 in
set_option maxHeartbeats 4000000 in
theorem usedGlues_any {G T C : Option Addr} {n cg m ct k cc : Nat} {gs : List Gl} {ts : List Ti} {ys : List Pl} {w : World} (h : SA w G n T m C k gs ts ys) (hV : Valid gs ts ys) :
    Calls Tryz.prog 30 #[.agg #[.slice G n cg, .slice T m ct], .agg #[.slice C k cc]] w fun e w' => ∃ b, e = .returned (.map (some b)) ∧ GMap w' b (4 * k) (usedI ts ys n k) ∧ Below w.heap.size w w' := by
  have hS := Lib.hid h
  have htl : ts.length = m := h.T.len
  have hgl : gs.length = n := h.G.len
  have hk5 : k ≤ 500 := by rw [← h.A.len]; exact hV.len
  have hm5 : m ≤ 160 := by rw [← htl]; exact hV.tl
  have hn5 : n ≤ 200 := by rw [← hgl]; exact hV.gl
  have hmm := @run_makeMap Tryz.prog
  clear h
  go_enter Tryz.func30, Tryz.ntmps30
  go_wp2
  have t0c : (((w.alloc (Obj.cells #[.slice G n cg, .slice T m ct] 40)).alloc (Obj.cells #[.slice C k cc] 43)).alloc (.map #[] 0)).cell? ⟨w.heap.size, 1, none⟩ = some (.slice T m ct) := by go_simp
  have hmade := Lib.hid (GMap.made ((w.alloc (Obj.cells #[.slice G n cg, .slice T m ct] 40)).alloc (Obj.cells #[.slice C k cc] 43)) (n + 1))
  have k0 := Lib.hid (show Below w.heap.size w (((w.alloc (Obj.cells #[.slice G n cg, .slice T m ct] 40)).alloc (Obj.cells #[.slice C k cc] 43)).alloc (.map #[] 0)) by exact bel_)
  have s0 : (((w.alloc (Obj.cells #[.slice G n cg, .slice T m ct] 40)).alloc (Obj.cells #[.slice C k cc] 43)).alloc (.map #[] 0)).heap.size = w.heap.size + 3 := by simp
  simp only [World.size_alloc] at hmade
  generalize (((w.alloc (Obj.cells #[.slice G n cg, .slice T m ct] 40)).alloc (Obj.cells #[.slice C k cc] 43)).alloc (.map #[] 0)) = W1 at t0c hmade k0 s0 ⊢
  obtain ⟨bM, hbM⟩ : ∃ bM, w.heap.size + 1 + 1 = bM := ⟨_, rfl⟩
  rw [hbM] at hmade ⊢
  have hbM2 : w.heap.size + 2 = bM := by omega
  have hbm0 : w.heap.size < bM := by omega
  have hbm1 : bM < W1.heap.size := by omega
  clear hbM
  have t0H := Lib.hid t0c
  clear t0c hmm
  go_loopg [14] k (fun g i wr => ∃ j : Nat, j + g = k ∧ i = .int .i64 (j : Int) ∧ Hid (Below bM W1 wr) ∧ Hid (GMap wr bM (4 * j) (usedI ts ys n j)))
  case atStart => exact ⟨0, by omega, rfl, Lib.hid (Below.refl _ _), hmade⟩
  case round =>
    obtain ⟨j, hj, rfl, hbr, hM⟩ := hrel
    obtain ⟨wb, rfl⟩ : ∃ wb : World, wb = wr := ⟨_, rfl⟩
    by_cases hjk : j < k
    · have hSw := Lib.hid (hS.out.below (k0.out.trans (hbr.out.mono (by omega))))
      have hA := hSw.out.A
      obtain ⟨e, he⟩ := hA.get hjk
      obtain ⟨tt, htt, htm⟩ := hV.ti j e he
      obtain ⟨b, o, hCe, hb, hc⟩ := hA.ptr (by omega)
      obtain ⟨d0, d1, d2⟩ := hc j e he
      subst hCe
      rw [htt] at d2
      rw [htl] at htm
      have hT := hS.out.T
      obtain ⟨t0, ht0⟩ := hT.get htm
      obtain ⟨bt, ot, hTe, hbt, hct⟩ := hT.ptr (by omega)
      obtain ⟨_, As, ns, cs, ds0, hSd⟩ := hct tt t0 ht0
      have ds := ((k0.out.trans (hbr.out.mono (by omega))).cell (p := ⟨bt, _, none⟩) hbt).trans ds0
      clear ds0
      obtain rfl : ns = 4 := by rw [← hSd.len]; exact hV.four tt t0 ht0
      have g0 := (hbr.out.cell (p := ⟨w.heap.size, 1, none⟩) hbm0).trans t0H.out
      have s1 := hbr.out.size
      have hjI : (j : Int) < (k : Int) := by omega
      have hj0 : (0 : Int) ≤ (j : Int) := by omega
      have hb' : b ≤ wb.heap.size := by omega
      have hbt' : bt ≤ wb.heap.size := by have := hbr.out.size; omega
      have hbt2 : bt < wb.heap.size := by have := hbr.out.size; omega
      have hws : w.heap.size < wb.heap.size := by omega
      have htI : (tt : Int) < (m : Int) := by omega
      have ht0' : (0 : Int) ≤ (tt : Int) := by omega
      have hside := Lib.hid (fun d hd => side_at hV ht0 (d := d) hd)
      have hUj := Lib.hid (show usedI ts ys n (j + 1) = usedD ts tt (usedI ts ys n j) 4 by simp only [usedI, he]; rw [htt]; rfl)
      obtain ⟨U, hU⟩ : ∃ U, usedI ts ys n j = U := ⟨_, rfl⟩
      have hUl := Lib.hid (show U.length = n + 1 by rw [← hU]; exact usedI_len ts ys n j)
      rw [hU] at hM hUj
      have hSdH := Lib.hid hSd
      subst hTe
      clear hc he hA hT hct hSd hU ht0
      go_wp2
      have hb2 := Lib.hid (show Below bM W1 (wb.alloc (Obj.cells #[.int .i64 e.x, .int .i64 e.y, .int .i64 (tt : Int)] 95)) from hbr.out.alloc (by omega) _)
      have hM2 := Lib.hid (hM.out.al (Obj.cells #[.int .i64 e.x, .int .i64 e.y, .int .i64 (tt : Int)] 95))
      generalize (wb.alloc (Obj.cells #[.int .i64 e.x, .int .i64 e.y, .int .i64 (tt : Int)] 95)) = w2 at hb2 hM2 ⊢
      clear d0 d1 d2 ds g0 hb' hbt' hbt2 hws hSw hM hbr s1
      go_loopg [26] 4 (fun g i wr => ∃ d : Nat, d + g = 4 ∧ i = .int .i64 (d : Int) ∧ Hid (Below bM W1 wr) ∧ Hid (GMap wr bM (4 * j + d) (usedD ts tt U d)))
      case atStart => exact ⟨0, by omega, rfl, hb2, Lib.hid (by simpa [usedD] using hM2.out)⟩
      case round =>
        obtain ⟨d, hd, rfl, hbr, hM⟩ := hrel
        have s3 := hbr.out.size
        by_cases hd4 : d < 4
        · have hSw := hSdH.out.below RInt.stable (k0.out.trans (hbr.out.mono (by omega)))
          obtain ⟨bs, os, hAe, hbs, hcs⟩ := hSw.ptr (by omega)
          obtain ⟨g, hg, hgN, hgn⟩ := hside.out d hd4
          have c0 := hcs d _ hg
          unfold RInt at c0
          simp only [Nat.mul_one] at c0
          subst hAe
          have hdI : (d : Int) < 4 := by omega
          have hd0 : (0 : Int) ≤ (d : Int) := by omega
          have hstep := Lib.hid (show usedD ts tt U (d + 1) = (usedD ts tt U d).set g true by simp only [usedD]; rw [hgN])
          have hlen := Lib.hid (show (usedD ts tt U d).length = n + 1 by rw [usedD_len, hUl.out])
          clear hcs hSw hg
          by_cases hg0 : g = 0
          · subst hg0
            go_wp2
            go_roundg (4 - (d + 1))
            case measure => omega
            case rel => exact ⟨d + 1, by omega, by go_num, hbr, Lib.hid (by rw [hstep.out]; exact (hM.out.null true).more (by omega))⟩
          · have hgI : (0 : Int) < (g : Int) := by omega
            go_wp2_with (at_mapUpdate; refine wpList_put_gmap _ rfl _ _ _ rfl bM (4 * j + d) _ rfl hM.out g (by omega) (by omega) (by rw [hlen.out]; omega) (by unfold maxLen; omega) rfl rfl ?_; intro w4 hM4 hg4; have hM4H := Lib.hid hM4; have hb4 := Lib.hid (hbr.out.grown hg4 (by omega) (by intro q e; injection e with e; omega)); clear hM4 hg4)
            go_wp2
            go_roundg (4 - (d + 1))
            case measure => omega
            case rel => exact ⟨d + 1, by omega, by go_num, hb4, Lib.hid (by rw [hstep.out]; exact hM4H.out)⟩
        · obtain rfl : d = 4 := by omega
          go_wp2
          go_roundg (k - (j + 1))
          case measure => omega
          case rel => exact ⟨j + 1, by omega, by go_num, hbr, Lib.hid (by rw [hUj.out]; exact hM.out.more (by omega))⟩
    · obtain rfl : j = k := by omega
      go_wp2
      go_ret
      exact ⟨bM, rfl, hM.out, k0.out.trans (hbr.out.mono (by omega))⟩
end Go.Proofs.YtmpmokefgdjnkaaGreat
/- Walks: the glues that an assembly uses, the reference (a row of bools); how many are true; the strength of all bonds, the reference. -/


namespace Go.Proofs.YtmpmokefgdjnkaaGreat
open Go.RowKit
attribute [local go_sem] BelowBy.cell BelowBy.cell_drew stillUpon givesUpon

theorem infoBo : (Tryz.prog.info? 4).map (fun i => (i.zero, i.size, i.bytes)) = some (some (.bool false), 1, 1) := by kernel_rfl
def boolF (U : List Bool) (i : Nat) : Value := .bool (U[i]?.getD false)
theorem boolF_set {U : List Bool} {g : Nat} {v : Bool} (hg : g < U.length) (i : Nat) : (if i = g then Value.bool v else boolF U i) = boolF (U.set g v) i := by
  unfold boolF
  by_cases hi : i = g
  · subst hi
    rw [if_pos rfl, List.getElem?_set_self hg]
    rfl
  · rw [if_neg hi, List.getElem?_set_ne (fun h => hi h.symm)]
theorem bool_made (w : World) (n : Nat) : (w.alloc (.cells (madeCells #[Value.bool false] n) 4)).rowIs w.heap.size 4 n (boolF (List.replicate n false)) :=
  World.rowIs.congr (World.rowIs_made w (.bool false) n 4) (fun i hi => by
    unfold boolF
    rw [List.getElem?_replicate, if_pos hi]
    rfl)
set_option maxRecDepth 100000 in
set_option maxHeartbeats 4000000 in
theorem l34Glues_any {p op pa oa k n : Nat} {gs : List Gl} {ts : List Ti} {ys : List Pl} {w : World} (hs : SetAt w p op gs ts) (ha : AsmAt w pa oa ys) (hV : Valid gs ts ys) (hk : ys.length = k) (hn : gs.length = n) :
    Calls Tryz.prog 19 #[.pointer (some ⟨p, op, none⟩), .pointer (some ⟨pa, oa, none⟩)] w fun e w' => e = .returned (.slice (some ⟨w.heap.size, 0, none⟩) (n + 1) (n + 1)) ∧ w'.rowIs w.heap.size 4 (n + 1) (boolF ((usedI ts ys n k).set 0 false)) ∧ Below w.heap.size w w' := by
  have hk5 : k ≤ 500 := by rw [← hk]; exact hV.len
  have hn5 : n ≤ 200 := by rw [← hn]; exact hV.gl
  have hmk : ∀ W, (Instr.makeSlice 62 (.int .i64 ((n : Int) + 1)) (.int .i64 ((n : Int) + 1))).run Tryz.prog W = .ok (.slice (some ⟨W.heap.size, 0, none⟩) (n + 1) (n + 1)) (W.alloc (.cells (madeCells #[Value.bool false] (n + 1)) 4)) := fun W => by
    have := run_makeN (P := Tryz.prog) 62 4 _ 1 1 Tryz.underlying62 infoBo (n + 1) (by omega) (by omega) W
    rw [Nat.mul_one] at this
    exact this
  have haH := Lib.hid ha
  have hsH := Lib.hid hs
  obtain ⟨hlt, ⟨G, nn, cg, g1, hG⟩, _⟩ := hs
  obtain rfl : nn = n := by rw [← hG.len, hn]
  have hlA := ha.lt
  have hw1 : IntKind.i64.wrap ((nn : Int) + 1) = (nn : Int) + 1 := by simp [IntKind.wrap, IntKind.bits, IntKind.signed]; omega
  clear ha hG
  go_enter Tryz.func19, Tryz.ntmps19
  go_wp2
  have hmade := Lib.hid (bool_made w (nn + 1))
  have k2 := Lib.hid (show Below w.heap.size w (w.alloc (.cells (madeCells #[Value.bool false] (nn + 1)) 4)) from bl_al (bl_refl _) _)
  clear g1
  go_loopg [6] k (fun g i wr => ∃ j : Nat, j + g = k ∧ i = .int .i64 (j : Int) ∧ Hid (Below w.heap.size w wr) ∧ Hid (wr.rowIs w.heap.size 4 (nn + 1) (boolF (usedI ts ys nn j))))
  case atStart => exact ⟨0, by omega, rfl, k2, hmade⟩
  case round =>
    obtain ⟨j, hj, rfl, hbr, hrow⟩ := hrel
    obtain ⟨wb, rfl⟩ : ∃ wb : World, wb = wr := ⟨_, rfl⟩
    obtain ⟨hltA, A, kk, ca, y1, hA⟩ := haH.out.below hbr.out
    obtain rfl : kk = k := by rw [← hA.len, hk]
    by_cases hjk : j < kk
    · obtain ⟨e, he⟩ := hA.get hjk
      have heH := Lib.hid he
      obtain ⟨tt, htt, htm⟩ := hV.ti j e he
      have httH := Lib.hid htt
      obtain ⟨t0, ht0⟩ : ∃ t0, ts[tt]? = some t0 := ⟨_, List.getElem?_eq_getElem htm⟩
      have ht0H := Lib.hid ht0
      have hside := Lib.hid (fun d hd => side_at hV ht0 (d := d) hd)
      have h4 := Lib.hid (hV.four tt t0 ht0)
      have hUj := Lib.hid (show usedI ts ys nn (j + 1) = usedD ts tt (usedI ts ys nn j) 4 by simp only [usedI, he]; rw [htt]; rfl)
      obtain ⟨U, hU⟩ : ∃ U, usedI ts ys nn j = U := ⟨_, rfl⟩
      have hUl := Lib.hid (show U.length = nn + 1 by rw [← hU]; exact usedI_len ts ys nn j)
      rw [hU] at hrow hUj
      clear hU he htt ht0
      go_wp2
      clear y1 hA
      go_loopg [7] 4 (fun g i wr => ∃ d : Nat, d + g = 4 ∧ i = .int .i64 (d : Int) ∧ Hid (Below w.heap.size w wr) ∧ Hid (wr.rowIs w.heap.size 4 (nn + 1) (boolF (usedD ts tt U d))))
      case atStart => exact ⟨0, by omega, rfl, hbr, hrow⟩
      case round =>
        clear hbr hrow
        obtain ⟨d, hd, rfl, hbr, hrow⟩ := hrel
        by_cases hd4 : d < 4
        · obtain ⟨hltA', A', k', ca', y1, hA⟩ := haH.out.below hbr.out
          obtain rfl : k' = kk := by rw [← hA.len, hk]
          obtain ⟨b, o, hCe, hb, hc⟩ := hA.ptr (by omega)
          obtain ⟨d0, d1, d2⟩ := hc j e heH.out
          subst hCe
          rw [httH.out] at d2
          obtain ⟨hlt', _, ⟨T, m, ct, t1, hT⟩⟩ := hsH.out.below hbr.out
          obtain ⟨bt, ot, hTe, hbt, hct⟩ := hT.ptr (by have := hT.len; omega)
          obtain ⟨_, As, ns, cs, ds, hSd⟩ := hct tt t0 ht0H.out
          obtain rfl : ns = 4 := by rw [← hSd.len]; exact h4.out
          obtain ⟨bs, os, hAe, hbs, hcs⟩ := hSd.ptr (by omega)
          obtain ⟨g, hg, hgN, hgn⟩ := hside.out d hd4
          have c0 := hcs d _ hg
          unfold RInt at c0
          simp only [Nat.mul_one] at c0
          subst hAe hTe
          have htmI : (tt : Int) < (m : Int) := by have := hT.len; omega
          have hdI : (d : Int) < 4 := by omega
          have hd0 : (0 : Int) ≤ (d : Int) := by omega
          have hjI : (j : Int) < (k' : Int) := by omega
          have hj0 : (0 : Int) ≤ (j : Int) := by omega
          have htt0 : (0 : Int) ≤ (tt : Int) := by omega
          have hg0 : (0 : Int) ≤ (g : Int) := by omega
          have hgI : (g : Int) < (nn : Int) + 1 := by omega
          have hgI2 : (g : Int) < ((nn + 1 : Nat) : Int) := by omega
          have r0 := hrow.out.cell (i := g) (by omega)
          have r1 := hrow.out.frozen g
          have r2 := hrow.out.lt
          have hstep := Lib.hid (show usedD ts tt U (d + 1) = (usedD ts tt U d).set g true by simp only [usedD]; rw [hgN])
          have hlen := Lib.hid (show (usedD ts tt U d).length = nn + 1 by rw [usedD_len, hUl.out])
          unfold boolF at r0
          generalize (usedD ts tt U d)[g]?.getD false = vb at r0
          clear hc hA hT hct hSd hcs hg
          go_wp2
          refine wp_region_ord [(0, .q), (1, .q), (2, .q), (3, .q), (4, .q), (5, .q), (6, .q), (7, .q), (8, .q), (9, .q), (10, .q), (11, .q), (12, .q), (13, .q), (14, .q), (15, .q), (16, .q), (17, .q), (18, .q), (19, .q), (20, .b)] (by kernel_rfl) (by kernel_rfl) ?_
          simp only [pick, List.filterMap_cons, List.filterMap_nil, List.getElem?_toArray, List.getElem?_cons_zero, List.getElem?_cons_succ, Option.map_some]
          repeat (first
            | ((with_reducible refine wpD_p (fun K hK => ?_)); go_simp; refine hK _ ?_; clear hK K)
            | ((with_reducible refine wpD_q (fun K hK => ?_)); go_simp; (first | refine hK _ ?_ | (go_bits; refine hK _ ?_) | (go_bits; go_simp; refine hK _ ?_)); clear hK K)
            | ((with_reducible refine wpD_g (fun K hK => ?_)); go_simp; refine hK _ _ ?_; clear hK K)
            | ((with_reducible refine wpD_g (fun K hK => ?_)); go_simp; refine ⟨Grew.of_alloc _, hK _ _ ?_⟩; clear hK K))
          with_reducible refine wpD_b (fun K hK => ?_)
          go_simp
          refine hK _ _ ?_
          clear hK K
          with_reducible refine wpD_nil ?_
          go_wp2
          go_roundg (4 - (d + 1))
          case measure => omega
          case rel =>
            exact ⟨d + 1, by omega, by go_num, Lib.hid ((hbr.out.drew.setCell (p := ⟨w.heap.size, g, none⟩) (Nat.le_refl _) _)), Lib.hid (World.rowIs.congr (World.rowIs.set hrow.out.drew g (.bool true)) (fun i hi => by rw [hstep.out]; exact boolF_set (by rw [hlen.out]; omega) i))⟩
        · obtain rfl : d = 4 := by omega
          go_wp2
          go_roundg (kk - (j + 1))
          case measure => omega
          case rel => exact ⟨j + 1, by omega, by go_num, hbr, Lib.hid (by rw [hUj.out]; exact hrow.out)⟩
    · obtain rfl : j = kk := by omega
      have hjE : ¬ (j : Int) < (j : Int) := by omega
      have r0 := hrow.out.cell (i := 0) (by omega)
      have r1 := hrow.out.frozen 0
      have r2 := hrow.out.lt
      unfold boolF at r0
      generalize (usedI ts ys nn j)[0]?.getD false = vb at r0
      have hnI : (0 : Int) < (nn : Int) + 1 := by omega
      have hnI2 : (0 : Int) < ((nn + 1 : Nat) : Int) := by omega
      go_wp2
      go_ret
      exact ⟨rfl, World.rowIs.congr (World.rowIs.set hrow.out 0 (.bool false)) (fun i hi => boolF_set (by rw [usedI_len]; omega) i), hbr.out.setCell (p := ⟨w.heap.size, 0, none⟩) (Nat.le_refl _) _⟩
end Go.Proofs.YtmpmokefgdjnkaaGreat
/- Walks: how many of a row of bools are true; the strength of all bonds, the reference. -/


namespace Go.Proofs.YtmpmokefgdjnkaaGreat
open Go.RowKit
attribute [local go_sem] BelowBy.cell BelowBy.cell_drew stillUpon givesUpon

set_option maxHeartbeats 1000000 in
theorem l34Count_any {b N : Nat} {V : List Bool} {w : World} (h : w.rowIs b 4 N (boolF V)) (hN : N ≤ 1000) (hV : V.length = N) {r : Int} (hr : (cntB V N : Int) = r) :
    Calls Tryz.prog 18 #[.slice (some ⟨b, 0, none⟩) N N] w fun e w' => e = .returned (.int .i64 r) ∧ w = w' := by
  have hrH := Lib.hid hr
  clear hr
  go_enter Tryz.func18, Tryz.ntmps18
  go_wp2
  go_loopg [4, 3] N (fun g i v wr => ∃ j : Nat, j + g = N ∧ i = .int .i64 (j : Int) ∧ v = .int .i64 ((cntB V j : Nat) : Int) ∧ w = wr)
  case atStart => exact ⟨0, by omega, rfl, rfl, rfl⟩
  case round =>
    obtain ⟨j, hj, rfl, rfl, rfl⟩ := hrel
    have hle := cntB_le V j
    by_cases hjN : j < N
    · have r0 := h.cell hjN
      have hjI : (j : Int) < (N : Int) := by omega
      have hj0 : (0 : Int) ≤ (j : Int) := by omega
      obtain ⟨v, hv⟩ : ∃ v, V[j]? = some v := ⟨_, List.getElem?_eq_getElem (by omega)⟩
      unfold boolF at r0
      rw [hv] at r0
      simp only [Option.getD_some] at r0
      have hvH := Lib.hid hv
      generalize hc : cntB V j = c at hle
      have hcH := Lib.hid hc
      have hw1 : IntKind.i64.wrap ((c : Int) + 1) = (c : Int) + 1 := by simp [IntKind.wrap, IntKind.bits, IntKind.signed]; omega
      clear hv hc
      cases v
      · have hst := Lib.hid (show cntB V (j + 1) = c by simp only [cntB, hvH.out, hcH.out]; simp)
        go_wp2
        go_roundg (N - (j + 1))
        case measure => omega
        case rel => exact ⟨j + 1, by omega, by go_num, by rw [hst.out], rfl⟩
      · have hst := Lib.hid (show cntB V (j + 1) = c + 1 by simp only [cntB, hvH.out, hcH.out]; simp)
        go_wp2
        go_roundg (N - (j + 1))
        case measure => omega
        case rel => exact ⟨j + 1, by omega, by go_num, by rw [hst.out]; go_num, rfl⟩
    · obtain rfl : j = N := by omega
      have hjE : ¬ (j : Int) < (j : Int) := by omega
      go_wp2
      go_ret
      exact ⟨ret_int hrH.out, rfl⟩
set_option maxRecDepth 100000 in
set_option maxHeartbeats 2000000 in
theorem TotalStrength_any {G T A : Option Addr} {n cg m ct q ca : Nat} {gs : List Gl} {ts : List Ti} {xs : List Pl} {w : World} (h : SA w G n T m A q gs ts xs) (hv : validAsmB gs ts xs = true) {r : Int} (hr : sumB (bondsL gs ts xs) = r) :
    Calls Tryz.prog 20 #[.agg #[.slice G n cg, .slice T m ct], .agg #[.slice A q ca]] w fun e w' => e = .returned (.tuple #[.int .i64 r, .int .i64 0]) ∧ Below w.heap.size w w' := by
  have hH := Lib.hid h
  have hrH := Lib.hid hr
  have hvH := Lib.hid hv
  have hV := valid_of hv
  have hsB := Lib.hid (bonds_s hV)
  have hbl := bondsL_len hV
  have hq5 := hV.len
  clear h hr hv
  have hbox := Lib.hid (hH.out.box cg ct ca)
  go_enter Tryz.func20, Tryz.ntmps20
  go_wp2_with fail
  refine (hbox.out.asked hvH.out).mono ?_
  rw [codeB_true]
  rintro e w1 ⟨rfl, hb1⟩
  obtain ⟨chb1, fhb1, shb1, thb1⟩ := bcell hb1
  have k1 := Lib.hid (show Below w.heap.size w w1 from by exact bel_)
  have hbox1 := Lib.hid (hbox.out.below hb1)
  go_wp2_with fail
  refine (hbox1.out.bonds hV).mono ?_
  rintro e w2 ⟨v, rfl, hrow, hb2⟩
  obtain ⟨Ab, cb, rfl, rdb⟩ := rd_of_row hrow
  have rdH := Lib.hid rdb
  have k2 := Lib.hid (show Below w.heap.size w w2 from k1.out.trans (hb2.mono k1.out.size))
  clear hrow rdb chb1 fhb1 shb1 thb1 hb1 hb2 hbox1
  obtain ⟨bs, hbs⟩ : ∃ bs, bondsL gs ts xs = bs := ⟨_, rfl⟩
  rw [hbs] at rdH hrH hsB hbl ⊢
  obtain ⟨N, hN⟩ : ∃ N, bs.length = N := ⟨_, rfl⟩
  rw [hN] at rdH hbl ⊢
  have hNH := Lib.hid hN
  clear hbs hN
  go_wp2
  go_loopg [9, 8] N (fun r x y wr => ∃ k : Nat, k + r = N ∧ x = .int .i64 (k : Int) ∧ y = .int .i64 (sumB (bs.take k)) ∧ w2 = wr)
  case atStart => exact ⟨0, by omega, rfl, rfl, rfl⟩
  case round =>
    obtain ⟨k, hk, rfl, rfl, rfl⟩ := hrel
    have hb := sumB_bound (bs := bs.take k) (fun j b hj => hsB.out j b (by rw [List.getElem?_take] at hj; split at hj; exact hj; cases hj))
    have htl : (bs.take k).length ≤ k := List.length_take_le _ _
    by_cases hlt : k < N
    · obtain ⟨b, o, hAe, hb1, hc⟩ := rdH.out.ptr (by omega)
      subst hAe
      obtain ⟨e, he⟩ := rdH.out.get hlt
      obtain ⟨c0, c1, c2⟩ := hc k e he
      obtain ⟨S, hS⟩ : ∃ S, sumB (bs.take k) = S := ⟨_, rfl⟩
      obtain ⟨e0, e4⟩ := hsB.out k e he
      have hnx := Lib.hid (sumB_take he)
      rw [hS] at hb hnx
      rw [hS]
      obtain ⟨S0, S4⟩ := hb
      have S5 : S ≤ 400000 := by omega
      have hw1 : IntKind.i64.wrap (S + e.s) = S + e.s := by simp [IntKind.wrap, IntKind.bits, IntKind.signed]; omega
      have hkI : (k : Int) < (N : Int) := by omega
      have hk0 : (0 : Int) ≤ (k : Int) := by omega
      clear hc he hS S4 htl
      go_wp2
      go_roundg (N - (k + 1))
      case measure => omega
      case rel => exact ⟨k + 1, by omega, by go_num, by rw [hnx.out], rfl⟩
    · obtain rfl : k = N := by omega
      have hkE : ¬ (k : Int) < (k : Int) := by omega
      have hT := Lib.hid (show sumB (bs.take k) = r by rw [List.take_of_length_le (by rw [hNH.out]; exact Nat.le_refl _)]; exact hrH.out)
      clear hb htl
      go_wp2
      refine bodyPost_ret (v := .tuple #[.int .i64 (sumB (bs.take k)), .int .i64 0]) (by simp only [results, Tryz.results20]; go_simp) rfl ?_
      exact ⟨by rw [hT.out], k2.out⟩
end Go.Proofs.YtmpmokefgdjnkaaGreat
/- Plain: the measure of an assembly; a box that holds one. -/



namespace Go.Proofs.YtmpmokefgdjnkaaGreat
open Go.RowKit
structure Ms where
  tiles : Int
  kinds : Int
  glues : Int
  area : Int
  strength : Int
  misfits : Int
  slack : Int
def Ms.zero : Ms := ⟨0, 0, 0, 0, 0, 0, 0⟩
/-- the measure of an assembly within a system -/
noncomputable def measM (gs : List Gl) (ts : List Ti) (xs : List Pl) (t : Int) (ys : List Pl) : Ms :=
  ⟨(ys.length : Int), kindN (cntL ys ts.length ys.length) ts.length, (glueN (usedI ts ys gs.length ys.length) : Int), areaOf ys, sumB (bondsL gs ts ys), ((misL ts (nbAll ys ys.length)).length : Int), listMin (slackL gs ts xs ys t ys.length)⟩
noncomputable def measR (gs : List Gl) (ts : List Ti) (xs : List Pl) (t : Int) (ys : List Pl) : Ms × Int :=
  if overI gs ts xs t ys = 0 then (measM gs ts xs t ys, 0) else (Ms.zero, overI gs ts xs t ys)
theorem measR_no {gs : List Gl} {ts : List Ti} {xs : List Pl} {t r : Int} {ys : List Pl} (h : overI gs ts xs t ys = r) (h0 : r ≠ 0) : measR gs ts xs t ys = (Ms.zero, r) := by
  unfold measR; rw [h, if_neg h0]
theorem measR_yes {gs : List Gl} {ts : List Ti} {xs : List Pl} {t : Int} {ys : List Pl} (h : overI gs ts xs t ys = 0) : measR gs ts xs t ys = (measM gs ts xs t ys, 0) := by
  unfold measR; rw [if_pos h]
def Ms.vals (m : Ms) : Array Value := #[.int .i64 m.tiles, .int .i64 m.kinds, .int .i64 m.glues, .int .i64 m.area, .int .i64 m.strength, .int .i64 m.misfits, .int .i64 m.slack]
def MsRes (w : World) (r : Ms × Int) (e : Ending) (w' : World) : Prop := e = .returned (.tuple #[.agg #[.int .i64 r.1.tiles, .int .i64 r.1.kinds, .int .i64 r.1.glues, .int .i64 r.1.area, .int .i64 r.1.strength, .int .i64 r.1.misfits, .int .i64 r.1.slack], .int .i64 r.2]) ∧ Below w.heap.size w w'
theorem atI_nil (x y : Int) : atI [] x y = -1 := by
  unfold atI
  split
  · rfl
  · simp
/-- what lies within a system is not empty -/
theorem over_some {gs : List Gl} {ts : List Ti} {xs : List Pl} {t : Int} {ys : List Pl} (h : overI gs ts xs t ys = 0) : 0 < ys.length := by
  obtain ⟨h1, h2⟩ := overI_zero h
  obtain ⟨h3, h4, _⟩ := sysOkB_valid (growB_true h1).1
  have hV := valid_of h3
  rcases Nat.eq_zero_or_pos ys.length with hy | hy
  · exfalso
    have hy0 : ys = [] := List.eq_nil_of_length_eq_zero hy
    subst hy0
    obtain ⟨e, he⟩ : ∃ e, xs[0]? = some e := ⟨_, List.getElem?_eq_getElem h4⟩
    obtain ⟨tt, htt, _⟩ := hV.ti 0 e he
    have hf : inAt [] xs 0 = false := by
      rw [inAt_eq he, atI_nil]
      exact decide_eq_false (by omega)
    have : withinB xs [] = false := allB_false h4 hf
    rw [this] at h2
    cases h2
  · exact hy
def msF (m : Ms) (i : Nat) : Value := m.vals.getD i undef
/-- block b is a box of the measure m -/
def MsB (w : World) (b : Nat) (m : Ms) : Prop := w.rowIs b 34 7 (msF m)
section
variable {w w' : World} {b : Nat} {m : Ms}
theorem MsB.c0 (h : MsB w b m) : w.cell? ⟨b, 0, none⟩ = some (.int .i64 m.tiles) := World.rowIs.cell h (i := 0) (by decide)
theorem MsB.c1 (h : MsB w b m) : w.cell? ⟨b, 1, none⟩ = some (.int .i64 m.kinds) := World.rowIs.cell h (i := 1) (by decide)
theorem MsB.c2 (h : MsB w b m) : w.cell? ⟨b, 2, none⟩ = some (.int .i64 m.glues) := World.rowIs.cell h (i := 2) (by decide)
theorem MsB.c3 (h : MsB w b m) : w.cell? ⟨b, 3, none⟩ = some (.int .i64 m.area) := World.rowIs.cell h (i := 3) (by decide)
theorem MsB.c4 (h : MsB w b m) : w.cell? ⟨b, 4, none⟩ = some (.int .i64 m.strength) := World.rowIs.cell h (i := 4) (by decide)
theorem MsB.c5 (h : MsB w b m) : w.cell? ⟨b, 5, none⟩ = some (.int .i64 m.misfits) := World.rowIs.cell h (i := 5) (by decide)
theorem MsB.c6 (h : MsB w b m) : w.cell? ⟨b, 6, none⟩ = some (.int .i64 m.slack) := World.rowIs.cell h (i := 6) (by decide)
theorem MsB.fr (h : MsB w b m) (i : Nat) : w.frozen? ⟨b, i, none⟩ = false := World.rowIs.frozen h i
theorem MsB.lt (h : MsB w b m) : b < w.heap.size := World.rowIs.lt h
theorem MsB.of_block (h : MsB w b m) (e : w'.heap[b]? = w.heap[b]?) : MsB w' b m := World.rowIs.of_block h e
theorem MsB.below (h : MsB w b m) (hb : Below w.heap.size w w') : MsB w' b m := h.of_block (hb.block b h.lt)
theorem MsB.al (h : MsB w b m) (o : Obj) : MsB (w.alloc o) b m := World.rowIs.alloc h o
theorem MsB.dr (h : MsB w b m) : MsB w.drew b m := h
theorem MsB.ofHeap (h : w.heap[b]? = some (.cells #[.int .i64 0, .int .i64 0, .int .i64 0, .int .i64 0, .int .i64 0, .int .i64 0, .int .i64 0] 34 (0, 0))) : MsB w b Ms.zero :=
  ⟨_, h, rfl, fun i hi => by
    match i, hi with
    | 0, _ => rfl
    | 1, _ => rfl
    | 2, _ => rfl
    | 3, _ => rfl
    | 4, _ => rfl
    | 5, _ => rfl
    | 6, _ => rfl⟩
theorem MsB.set (h : MsB w b m) (j : Nat) (v : Int) {m' : Ms} (hm : ∀ i, i < 7 → (if i = j then Value.int .i64 v else msF m i) = msF m' i) : MsB (w.setCell ⟨b, j, none⟩ (.int .i64 v)) b m' :=
  World.rowIs.congr (World.rowIs.set h j (.int .i64 v)) hm
theorem MsB.set1 (h : MsB w b m) (v : Int) : MsB (w.setCell ⟨b, 1, none⟩ (.int .i64 v)) b { m with kinds := v } := h.set 1 v (fun i hi => by
  match i, hi with
  | 0, _ => rfl
  | 1, _ => rfl
  | 2, _ => rfl
  | 3, _ => rfl
  | 4, _ => rfl
  | 5, _ => rfl
  | 6, _ => rfl)
theorem MsB.set2 (h : MsB w b m) (v : Int) : MsB (w.setCell ⟨b, 2, none⟩ (.int .i64 v)) b { m with glues := v } := h.set 2 v (fun i hi => by
  match i, hi with
  | 0, _ => rfl
  | 1, _ => rfl
  | 2, _ => rfl
  | 3, _ => rfl
  | 4, _ => rfl
  | 5, _ => rfl
  | 6, _ => rfl)
theorem MsB.set4 (h : MsB w b m) (v : Int) : MsB (w.setCell ⟨b, 4, none⟩ (.int .i64 v)) b { m with strength := v } := h.set 4 v (fun i hi => by
  match i, hi with
  | 0, _ => rfl
  | 1, _ => rfl
  | 2, _ => rfl
  | 3, _ => rfl
  | 4, _ => rfl
  | 5, _ => rfl
  | 6, _ => rfl)
theorem MsB.set5 (h : MsB w b m) (v : Int) : MsB (w.setCell ⟨b, 5, none⟩ (.int .i64 v)) b { m with misfits := v } := h.set 5 v (fun i hi => by
  match i, hi with
  | 0, _ => rfl
  | 1, _ => rfl
  | 2, _ => rfl
  | 3, _ => rfl
  | 4, _ => rfl
  | 5, _ => rfl
  | 6, _ => rfl)
theorem MsB.set6 (h : MsB w b m) (v : Int) : MsB (w.setCell ⟨b, 6, none⟩ (.int .i64 v)) b { m with slack := v } := h.set 6 v (fun i hi => by
  match i, hi with
  | 0, _ => rfl
  | 1, _ => rfl
  | 2, _ => rfl
  | 3, _ => rfl
  | 4, _ => rfl
  | 5, _ => rfl
  | 6, _ => rfl)
theorem MsB.set0 (h : MsB w b m) (v : Int) : MsB (w.setCell ⟨b, 0, none⟩ (.int .i64 v)) b { m with tiles := v } := h.set 0 v (fun i hi => by
  match i, hi with
  | 0, _ => rfl
  | 1, _ => rfl
  | 2, _ => rfl
  | 3, _ => rfl
  | 4, _ => rfl
  | 5, _ => rfl
  | 6, _ => rfl)
theorem MsB.set3 (h : MsB w b m) (v : Int) : MsB (w.setCell ⟨b, 3, none⟩ (.int .i64 v)) b { m with area := v } := h.set 3 v (fun i hi => by
  match i, hi with
  | 0, _ => rfl
  | 1, _ => rfl
  | 2, _ => rfl
  | 3, _ => rfl
  | 4, _ => rfl
  | 5, _ => rfl
  | 6, _ => rfl)
end
end Go.Proofs.YtmpmokefgdjnkaaGreat
/- Walks: MeasureOf, the program. -/


namespace Go.Proofs.YtmpmokefgdjnkaaGreat
open Go.RowKit
attribute [local go_sem] BelowBy.cell BelowBy.cell_drew stillUpon givesUpon

set_option maxRecDepth 100000 in
set_option maxHeartbeats 8000000 in
theorem MeasureOf_any (G T A C : Option Addr) (n cg m ct q ca k cc : Nat) (gs : List Gl) (ts : List Ti) (xs ys : List Pl) (t : Int) (w : World) (h : SA w G n T m A q gs ts xs) (h2 : SA w G n T m C k gs ts ys) :
    Calls Tryz.prog 9 #[.agg #[.slice G n cg, .slice T m ct, .slice A q ca, .int .i64 t], .agg #[.slice C k cc]] w (MsRes w (measR gs ts xs t ys)) := by
  have hS := Lib.hid h
  have hA := Lib.hid h2
  have hkl := h2.A.len
  have htl := h.T.len
  have hgl := h.G.len
  clear h h2
  obtain ⟨r, hrE⟩ : ∃ r, overI gs ts xs t ys = r := ⟨_, rfl⟩
  have hrH := Lib.hid hrE
  by_cases hr0 : r = 0
  · subst hr0
    have hg := overI_zero hrE
    have hsv := sysOkB_valid (growB_true hg.1).1
    have hVx := valid_of hsv.1
    have htp := temp_in hsv.2.2
    have hvY := (growB_true hg.1).2
    have hVy := valid_of hvY
    have hpos : 0 < k := by rw [← hkl]; exact over_some hrE
    have hk5 : k ≤ 500 := by rw [← hkl]; exact hVy.len
    have hRes := Lib.hid (measR_yes hrE)
    clear hrE hg hsv
    go_enter Tryz.func9, Tryz.ntmps9
    go_wp2_with fail
    refine (insideCode_at (hS.out.below (by exact bel_)) (hA.out.below (by exact bel_)) hrH.out).mono ?_; rintro e w1 ⟨rfl, hb1⟩
    obtain ⟨chb1, fhb1, shb1, thb1⟩ := bcell hb1
    have a0 := shb1 w.heap.size (by go_simp)
    have a1 := shb1 (w.heap.size + 1) (by go_simp)
    have a2 := shb1 (w.heap.size + 1 + 1) (by go_simp)
    have k1 := Lib.hid (show Below w.heap.size w w1 from by exact bel_)
    have x00 : w1.cell? ⟨w.heap.size, 0, none⟩ = some (.slice G n cg) := by go_simp
    have x01 : w1.cell? ⟨w.heap.size, 1, none⟩ = some (.slice T m ct) := by go_simp
    have x02 : w1.cell? ⟨w.heap.size, 2, none⟩ = some (.slice A q ca) := by go_simp
    have x03 : w1.cell? ⟨w.heap.size, 3, none⟩ = some (.int .i64 t) := by go_simp
    have x10 : w1.cell? ⟨w.heap.size + 1, 0, none⟩ = some (.slice C k cc) := by go_simp
    have hZ : MsB w1 (w.heap.size + 1 + 1) Ms.zero := by
      refine MsB.below (w := ((w.alloc (Obj.cells #[.slice G n cg, .slice T m ct, .slice A q ca, .int .i64 t] 45)).alloc (Obj.cells #[.slice C k cc] 43)).alloc (Obj.cells #[.int .i64 0, .int .i64 0, .int .i64 0, .int .i64 0, .int .i64 0, .int .i64 0, .int .i64 0] 34)) ?_ hb1
      have := World.rowIs_alloc ((w.alloc (Obj.cells #[.slice G n cg, .slice T m ct, .slice A q ca, .int .i64 t] 45)).alloc (Obj.cells #[.slice C k cc] 43)) #[.int .i64 0, .int .i64 0, .int .i64 0, .int .i64 0, .int .i64 0, .int .i64 0, .int .i64 0] 34 (msF Ms.zero) (fun i hi => by
        match i, hi with
        | 0, _ => rfl
        | 1, _ => rfl
        | 2, _ => rfl
        | 3, _ => rfl
        | 4, _ => rfl
        | 5, _ => rfl
        | 6, _ => rfl)
      simp only [World.size_alloc] at this
      exact this
    have hZH := Lib.hid hZ
    clear chb1 fhb1 shb1 thb1 hb1 hZ
    have hAr := Lib.hid (show areaI (bxN (ys.map toPt) k) = areaOf ys by unfold areaOf; rw [if_neg (by omega), hkl])
    have hsB := Lib.hid (bonds_s hVy)
    have hbl := bondsL_len hVy
    have hsb := sumB_bound (bonds_s hVy)
    obtain ⟨AR, hAR⟩ : ∃ v, areaOf ys = v := ⟨_, rfl⟩
    obtain ⟨ST, hST⟩ : ∃ v, sumB (bondsL gs ts ys) = v := ⟨_, rfl⟩
    rw [hAR] at hAr
    have hARH := Lib.hid hAR
    have hSTH := Lib.hid hST
    have s1 : w.heap.size + 1 + 1 < w1.heap.size := a2
    clear hAR hST
    go_wp2_with fail
    refine wp_region_fl 11 [(0, .q), (1, .q), (2, .q), (3, .q), (5, .q), (6, .q), (7, .q), (4, .g), (8, .g), (9, .g), (10, .q)] [(12, .b)] _ (Obj.cells #[.int .i64 0, .int .i64 0, .int .i64 0, .int .i64 0, .int .i64 0, .int .i64 0, .int .i64 0] 34) (by kernel_rfl) (by kernel_rfl) (by kernel_rfl) (by kernel_rfl) rfl (fun a w => ⟨rfl, by unfold flPtr; go_simp⟩) ?_
    simp only [pick, List.filterMap_cons, List.filterMap_nil, List.getElem?_toArray, List.getElem?_cons_zero, List.getElem?_cons_succ, Option.map_some]
    repeat (first | ((with_reducible refine wpL_p (fun K hK => ?_)); go_simp; refine hK _ ?_; clear hK K) | ((with_reducible refine wpL_q (fun K hK => ?_)); go_simp; (first | refine hK _ ?_ | (go_bits; refine hK _ ?_) | (go_bits; go_simp; refine hK _ ?_)); clear hK K))
    with_reducible refine wpL_g rfl (fun K hK st4 u4 mv4 => ?_)
    have hu4 := mv4.below
    have fu4 := (FlAt.none (Obj.cells #[.int .i64 0, .int .i64 0, .int .i64 0, .int .i64 0, .int .i64 0, .int .i64 0, .int .i64 0] 34) (World.drew w1)).mv mv4
    have j4 : Below w1.heap.size w1 u4 := (Below.refl _ w1).drew.trans (hu4.mono (Nat.le_refl _))
    have q4 := Lib.hid (k1.out.trans (j4.mono k1.out.size))
    clear mv4
    go_simp
    refine (area_any (hA.out.below q4.out).A (by omega) hpos hVy hAr.out).mono ?_; rintro e w2 ⟨rfl, hb2⟩
    refine ⟨_, rfl, hb2, hK _ _ _ ?_⟩
    clear hK K
    have fd4 := fu4.below hb2
    have j5 : Below w1.heap.size w1 w2 := j4.trans (hb2.mono j4.size)
    repeat (first | ((with_reducible refine wpL_p (fun K hK => ?_)); go_simp; refine hK _ ?_; clear hK K) | ((with_reducible refine wpL_q (fun K hK => ?_)); go_simp; (first | refine hK _ ?_ | (go_bits; refine hK _ ?_) | (go_bits; go_simp; refine hK _ ?_)); clear hK K))
    with_reducible refine wpL_g rfl (fun K hK st5 u5 mv5 => ?_)
    have hu5 := mv5.below
    have fu5 := fd4.mv mv5
    have j6 : Below w1.heap.size w1 u5 := j5.trans (hu5.mono j5.size)
    have q5 := Lib.hid (k1.out.trans (j6.mono k1.out.size))
    clear mv5
    go_simp
    refine ((hA.out.below q5.out).bonds hVy).mono ?_; rintro e w3 ⟨vB, rfl, hrow, hb3⟩
    refine ⟨_, rfl, hb3, hK _ _ _ ?_⟩
    clear hK K
    have fd5 := fu5.below hb3
    have j7 : Below w1.heap.size w1 w3 := j6.trans (hb3.mono j6.size)
    obtain ⟨Ab, cb, rfl, rdb⟩ := rd_of_row hrow
    have rdbH := Lib.hid rdb
    clear hrow rdb
    repeat (first | ((with_reducible refine wpL_p (fun K hK => ?_)); go_simp; refine hK _ ?_; clear hK K) | ((with_reducible refine wpL_q (fun K hK => ?_)); go_simp; (first | refine hK _ ?_ | (go_bits; refine hK _ ?_) | (go_bits; go_simp; refine hK _ ?_)); clear hK K))
    with_reducible refine wpL_g rfl (fun K hK st6 u6 mv6 => ?_)
    have hu6 := mv6.below
    have fu6 := fd5.mv mv6
    have j8 : Below w1.heap.size w1 u6 := j7.trans (hu6.mono j7.size)
    clear mv6
    go_simp
    refine (strengthOf_any _ _ _ _ _ (rdbH.out.below RBd.stable hu6) (by omega) hsB.out).mono ?_
    rw [hSTH.out]
    rintro e w4 ⟨rfl, hb4⟩
    refine ⟨_, rfl, hb4, hK _ _ _ ?_⟩
    clear hK K
    have fd6 := fu6.below hb4
    have j9 : Below w1.heap.size w1 w4 := j8.trans (hb4.mono j8.size)
    repeat (first | ((with_reducible refine wpL_p (fun K hK => ?_)); go_simp; refine hK _ ?_; clear hK K) | ((with_reducible refine wpL_q (fun K hK => ?_)); go_simp; (first | refine hK _ ?_ | (go_bits; refine hK _ ?_) | (go_bits; go_simp; refine hK _ ?_)); clear hK K))
    with_reducible refine wpL_nil (fun b7 w5 mvF => ?_)
    have huF := mvF.below
    obtain ⟨fl7, fb7⟩ := (fd6.mv mvF).2 _ rfl
    have j10 : Below w1.heap.size w1 w5 := j9.trans (huF.mono j9.size)
    have j10H := Lib.hid j10
    clear mvF
    simp only [World.size_drew] at fl7
    have hM0 : MsB w5 b7 Ms.zero := MsB.ofHeap fb7
    have hM0H := Lib.hid hM0
    have r0 := hM0.c0
    have r1 := hM0.c1
    have r2 := hM0.c2
    have r3 := hM0.c3
    have r4 := hM0.c4
    have r5 := hM0.c5
    have r6 := hM0.c6
    have r7 := hM0.fr 0
    have r8 := hM0.fr 1
    have r9 := hM0.fr 2
    have r10 := hM0.fr 3
    have r11 := hM0.fr 4
    have r12 := hM0.fr 5
    have r13 := hM0.fr 6
    simp only [flPtr]
    clear fu4 fd4 fu5 fd5 fu6 fd6 hu4 hu5 hu6 huF hb2 hb3 hb4 j4 j5 j6 j7 j8 j9 j10 fb7 rdbH hM0 q4 q5 hAr hsB
    with_reducible refine wpD_b (fun K hK => ?_)
    go_simp
    refine hK _ _ ?_
    clear hK K
    repeat (first | ((with_reducible refine wpL_p (fun K hK => ?_)); go_simp; refine hK _ ?_; clear hK K) | ((with_reducible refine wpL_q (fun K hK => ?_)); go_simp; (first | refine hK _ ?_ | (go_bits; refine hK _ ?_) | (go_bits; go_simp; refine hK _ ?_)); clear hK K))
    with_reducible refine wpD_nil ?_
    have hM6 : MsB (((((((w5.setCell ⟨b7, 0, none⟩ (.int .i64 (k : Int))).setCell ⟨b7, 1, none⟩ (.int .i64 0)).setCell ⟨b7, 2, none⟩ (.int .i64 0)).setCell ⟨b7, 3, none⟩ (.int .i64 AR)).setCell ⟨b7, 4, none⟩ (.int .i64 ST)).setCell ⟨b7, 5, none⟩ (.int .i64 0)).setCell ⟨b7, 6, none⟩ (.int .i64 0)) b7 ⟨(k : Int), 0, 0, AR, ST, 0, 0⟩ := (((((((hM0H.out.set0 (k : Int)).set1 0).set2 0).set3 AR).set4 ST).set5 0).set6 0)
    have j6 : Below w1.heap.size w1 (((((((w5.setCell ⟨b7, 0, none⟩ (.int .i64 (k : Int))).setCell ⟨b7, 1, none⟩ (.int .i64 0)).setCell ⟨b7, 2, none⟩ (.int .i64 0)).setCell ⟨b7, 3, none⟩ (.int .i64 AR)).setCell ⟨b7, 4, none⟩ (.int .i64 ST)).setCell ⟨b7, 5, none⟩ (.int .i64 0)).setCell ⟨b7, 6, none⟩ (.int .i64 0)) := (((((((j10H.out.setCell (p := ⟨b7, 0, none⟩) fl7 _).setCell (p := ⟨b7, 1, none⟩) fl7 _).setCell (p := ⟨b7, 2, none⟩) fl7 _).setCell (p := ⟨b7, 3, none⟩) fl7 _).setCell (p := ⟨b7, 4, none⟩) fl7 _).setCell (p := ⟨b7, 5, none⟩) fl7 _).setCell (p := ⟨b7, 6, none⟩) fl7 _)
    clear r0 r1 r2 r3 r4 r5 r6 r7 r8 r9 r10 r11 r12 r13 hM0H j10H
    generalize (((((((w5.setCell ⟨b7, 0, none⟩ (.int .i64 (k : Int))).setCell ⟨b7, 1, none⟩ (.int .i64 0)).setCell ⟨b7, 2, none⟩ (.int .i64 0)).setCell ⟨b7, 3, none⟩ (.int .i64 AR)).setCell ⟨b7, 4, none⟩ (.int .i64 ST)).setCell ⟨b7, 5, none⟩ (.int .i64 0)).setCell ⟨b7, 6, none⟩ (.int .i64 0)) = w6 at hM6 j6 ⊢
    have hM6H := Lib.hid hM6
    have j6H := Lib.hid j6
    have q6 := Lib.hid (k1.out.trans (j6.mono k1.out.size))
    have hlt6 := hM6.lt
    clear hM6 j6
    have y00 := (j6H.out.cell (p := ⟨w.heap.size, 0, none⟩) a0).trans x00
    have y01 := (j6H.out.cell (p := ⟨w.heap.size, 1, none⟩) a0).trans x01
    have y02 := (j6H.out.cell (p := ⟨w.heap.size, 2, none⟩) a0).trans x02
    have y03 := (j6H.out.cell (p := ⟨w.heap.size, 3, none⟩) a0).trans x03
    have y10 := (j6H.out.cell (p := ⟨w.heap.size + 1, 0, none⟩) a1).trans x10
    clear s1
    go_wp2_with fail
    refine (CountTiles_any (hA.out.below q6.out) hvY).mono ?_; rintro e w7 ⟨bc, rfl, hbc, hrowC, hb7⟩
    have j7H := Lib.hid (j6H.out.trans (hb7.mono j6H.out.size))
    have hM7H := Lib.hid (hM6H.out.below hb7)
    obtain ⟨L, hL⟩ : ∃ L, cntL ys m k = L := ⟨_, rfl⟩
    have hLl : L.length = m := by rw [← hL]; exact cntL_len ys m k
    have hLr : ∀ v ∈ L, 0 ≤ v ∧ v ≤ (k : Int) := by rw [← hL]; exact cntL_rng ys m k
    have hLH := Lib.hid hL
    have hm5 : m ≤ 160 := by rw [← htl]; exact hVy.tl
    rw [hL, hLl] at hrowC
    have hrowH := Lib.hid hrowC
    have hne7 : ¬ bc = b7 := by omega
    have hnb7 : ¬ b7 = bc := by omega
    have hmI : (0 : Int) ≤ (m : Int) := by omega
    clear hL hrowC hb7 hbc
    clear y00 y01 y02 y03 y10
    go_wp2
    go_loopg [41] m (fun g i wr => ∃ u : Nat, u + g = m ∧ i = .int .i64 (u : Int) ∧ Hid (Below w1.heap.size w1 wr) ∧ Hid (MsB wr b7 ⟨(k : Int), kindN L u, 0, AR, ST, 0, 0⟩) ∧ Hid (wr.rowIs bc 2 m (fun i => .int .i64 (L[i]?.getD 0))))
    case atStart => exact ⟨0, by omega, rfl, j7H, hM7H, hrowH⟩
    case round =>
      clear j7H hM7H hrowH hlt6 j6H hM6H q6
      obtain ⟨u, hu, rfl, hbr, hM, hrow⟩ := hrel
      have hlt7 := hM.out.lt
      by_cases hum : u < m
      · have v0 := hrow.out.cell hum
        obtain ⟨v, hv⟩ : ∃ v, L[u]? = some v := ⟨_, List.getElem?_eq_getElem (by omega)⟩
        rw [hv] at v0
        simp only [Option.getD_some] at v0
        obtain ⟨v1, v2⟩ := hLr v (List.mem_of_getElem? hv)
        have hkn := Lib.hid (kindN_min hv v1)
        have hkr := kindN_rng L u
        generalize kindN L u = X at hM hkn hkr
        obtain ⟨d, hd⟩ : ∃ d, min v 1 = d := ⟨_, rfl⟩
        have hd1 : mn v 1 = d := by unfold mn; split <;> omega
        have hd2 : 0 ≤ d ∧ d ≤ 1 := by omega
        rw [hd1] at hkn
        have hw1 : IntKind.i64.wrap (X + d) = X + d := by simp [IntKind.wrap, IntKind.bits, IntKind.signed]; omega
        have huI : (u : Int) < (m : Int) := by omega
        have hu0 : (0 : Int) ≤ (u : Int) := by omega
        have m1 := hM.out.c1
        have m2 := hM.out.fr 1
        clear hv hd1
        go_wp2
        go_roundg (m - (u + 1))
        case measure => omega
        case rel => exact ⟨u + 1, by omega, by go_num, Lib.hid (hbr.out.setCell (p := ⟨b7, 1, none⟩) fl7 _), Lib.hid (by rw [hkn.out]; exact hM.out.set1 (X + d)), Lib.hid (hrow.out.setOther hne7 _)⟩
      · obtain rfl : u = m := by omega
        have hKV : kindN L u = kindN L u := rfl
        generalize hX : kindN L u = KV at hM
        have hXH := Lib.hid hX
        have q8 := Lib.hid (k1.out.trans (hbr.out.mono k1.out.size))
        clear hX hKV hrow hLr
        have y00 := (hbr.out.cell (p := ⟨w.heap.size, 0, none⟩) a0).trans x00
        have y01 := (hbr.out.cell (p := ⟨w.heap.size, 1, none⟩) a0).trans x01
        have y02 := (hbr.out.cell (p := ⟨w.heap.size, 2, none⟩) a0).trans x02
        have y03 := (hbr.out.cell (p := ⟨w.heap.size, 3, none⟩) a0).trans x03
        have y10 := (hbr.out.cell (p := ⟨w.heap.size + 1, 0, none⟩) a1).trans x10
        go_wp2_with fail
        refine (usedGlues_any (hA.out.below q8.out) hVy).mono ?_; rintro e w9 ⟨bg, rfl, hG, hb9⟩
        have j9 := hbr.out.trans (hb9.mono hbr.out.size)
        have j9H := Lib.hid j9
        have q9 := Lib.hid (k1.out.trans (j9.mono k1.out.size))
        have hM9H := Lib.hid (hM.out.below hb9)
        obtain ⟨D, hown, _, hsz, _⟩ := hG
        obtain ⟨GV, hGV⟩ : ∃ v, glueN (usedI ts ys n k) = v := ⟨_, rfl⟩
        have hGVH := Lib.hid hGV
        have hln := hown.len Tryz.underlying78 3
        rw [hsz, hGV] at hln
        have hlt9 := hM9H.out.lt
        have n2 := hM9H.out.c2
        have n3 := hM9H.out.fr 2
        clear hown hsz hb9 hbr hM hlt7 q8 hGV j9
        clear y00 y01 y02 y03 y10
        have y00 := (j9H.out.cell (p := ⟨w.heap.size, 0, none⟩) a0).trans x00
        have y01 := (j9H.out.cell (p := ⟨w.heap.size, 1, none⟩) a0).trans x01
        have y02 := (j9H.out.cell (p := ⟨w.heap.size, 2, none⟩) a0).trans x02
        have y03 := (j9H.out.cell (p := ⟨w.heap.size, 3, none⟩) a0).trans x03
        have y10 := (j9H.out.cell (p := ⟨w.heap.size + 1, 0, none⟩) a1).trans x10
        go_wp2_with fail
        refine (MismatchesOf_any _ _ _ _ _ _ _ _ _ gs ts ys _ (hA.out.below ?B10)).mono ?_
        case B10 => exact q9.out.setCell (p := ⟨b7, 2, none⟩) (by show w.heap.size ≤ b7; omega) _
        rw [show missR gs ts ys = (misL ts (nbAll ys ys.length), 0) from (missR_yes hvY).symm]
        rintro e w10 ⟨Am, cm, rfl, hrow, hb10⟩
        obtain ⟨MV, hMV⟩ : ∃ v, (misL ts (nbAll ys ys.length)).length = v := ⟨_, rfl⟩
        have hMVH := Lib.hid hMV
        dsimp only
        rw [hMV]
        clear hrow hMV
        have j9b := j9H.out.setCell (p := ⟨b7, 2, none⟩) fl7 (.int .i64 (GV : Int))
        have j10 := j9b.trans (hb10.mono j9b.size)
        have hM10 := (hM9H.out.set2 (GV : Int)).below hb10
        have j10H := Lib.hid j10
        have q10 := Lib.hid (k1.out.trans (j10.mono k1.out.size))
        have hM10H := Lib.hid hM10
        have hlt10 := hM10.lt
        have n5 := hM10.c5
        have n6 := hM10.fr 5
        clear n2 n3 j9b j10 hM10 hb10 hlt9 j9H q9 hM9H hln
        clear y00 y01 y02 y03 y10
        have y00 := (j10H.out.cell (p := ⟨w.heap.size, 0, none⟩) a0).trans x00
        have y01 := (j10H.out.cell (p := ⟨w.heap.size, 1, none⟩) a0).trans x01
        have y02 := (j10H.out.cell (p := ⟨w.heap.size, 2, none⟩) a0).trans x02
        have y03 := (j10H.out.cell (p := ⟨w.heap.size, 3, none⟩) a0).trans x03
        have y10 := (j10H.out.cell (p := ⟨w.heap.size + 1, 0, none⟩) a1).trans x10
        go_wp2_with fail
        refine (slack_any (hS.out.below ?B11) hVx (hA.out.below ?B11) hVy htp).mono ?_
        case B11 => exact q10.out.setCell (p := ⟨b7, 5, none⟩) (by show w.heap.size ≤ b7; omega) _
        rintro e w11 ⟨rfl, hb11⟩
        obtain ⟨SV, hSV⟩ : ∃ v, listMin (slackL gs ts xs ys t k) = v := ⟨_, rfl⟩
        have hSVH := Lib.hid hSV
        rw [hSV]
        have j10b := j10H.out.setCell (p := ⟨b7, 5, none⟩) fl7 (.int .i64 (MV : Int))
        have j11 := j10b.trans (hb11.mono j10b.size)
        have hM11 := (hM10H.out.set5 (MV : Int)).below hb11
        have hZ11 := hZH.out.below j11
        have q11 := Lib.hid (k1.out.trans (j11.mono k1.out.size))
        have hlt11 := hM11.lt
        have hltz := hZ11.lt
        have ne1 : ¬ b7 = w.heap.size + 1 + 1 := by have := hZH.out.lt; omega
        have ne2 : ¬ w.heap.size + 1 + 1 = b7 := fun e => ne1 e.symm
        clear n5 n6 j10b j10H hM10H hlt10 q10 hb11 hSV
        clear y00 y01 y02 y03 y10
        have nc0 := hM11.c0
        have nc1 := hM11.c1
        have nc2 := hM11.c2
        have nc3 := hM11.c3
        have nc4 := hM11.c4
        have nc5 := hM11.c5
        have nc6 := hM11.c6
        have nf0 := hM11.fr 0
        have nf1 := hM11.fr 1
        have nf2 := hM11.fr 2
        have nf3 := hM11.fr 3
        have nf4 := hM11.fr 4
        have nf5 := hM11.fr 5
        have nf6 := hM11.fr 6
        have zc0 := hZ11.c0
        have zc1 := hZ11.c1
        have zc2 := hZ11.c2
        have zc3 := hZ11.c3
        have zc4 := hZ11.c4
        have zc5 := hZ11.c5
        have zc6 := hZ11.c6
        have zf0 := hZ11.fr 0
        have zf1 := hZ11.fr 1
        have zf2 := hZ11.fr 2
        have zf3 := hZ11.fr 3
        have zf4 := hZ11.fr 4
        have zf5 := hZ11.fr 5
        have zf6 := hZ11.fr 6
        have zb : w.heap.size ≤ b7 := by omega
        have zc : w.heap.size ≤ w.heap.size + 1 + 1 := by omega
        clear j11 hM11 hZ11 hZH x00 x01 x02 x03 x10
        go_wp2_with fail
        refine bodyPost_ret (v := .tuple #[.agg #[.int .i64 (k : Int), .int .i64 KV, .int .i64 (GV : Int), .int .i64 AR, .int .i64 ST, .int .i64 (MV : Int), .int .i64 SV], .int .i64 0]) (by simp only [results, Tryz.results9]; go_simp) rfl ?_
        refine ⟨?_, ?_⟩
        · rw [hRes.out]
          simp only [measM]
          rw [hkl, htl, hgl, hLH.out, hXH.out, hGVH.out, hARH.out, hSTH.out, ← hkl, hMVH.out, hkl, hSVH.out]
        · exact (((((((q11.out.setCell (p := ⟨b7, 6, none⟩) zb _).setCell (p := ⟨w.heap.size + 1 + 1, 0, none⟩) zc _).setCell (p := ⟨w.heap.size + 1 + 1, 1, none⟩) zc _).setCell (p := ⟨w.heap.size + 1 + 1, 2, none⟩) zc _).setCell (p := ⟨w.heap.size + 1 + 1, 3, none⟩) zc _).setCell (p := ⟨w.heap.size + 1 + 1, 4, none⟩) zc _).setCell (p := ⟨w.heap.size + 1 + 1, 5, none⟩) zc _).setCell (p := ⟨w.heap.size + 1 + 1, 6, none⟩) zc _
  · have hr1 : (r != 0) = true := by simpa using hr0
    have hRes := Lib.hid (measR_no hrE hr0)
    clear hrE
    go_enter Tryz.func9, Tryz.ntmps9
    go_wp2_with fail
    refine (insideCode_at (hS.out.below (by exact bel_)) (hA.out.below (by exact bel_)) hrH.out).mono ?_; rintro e w1 ⟨rfl, hb1⟩
    obtain ⟨chb1, fhb1, shb1, thb1⟩ := bcell hb1
    have a2 := shb1 (w.heap.size + 1 + 1) (by go_simp)
    go_wp2_with fail
    refine bodyPost_ret (v := .tuple #[.agg #[.int .i64 0, .int .i64 0, .int .i64 0, .int .i64 0, .int .i64 0, .int .i64 0, .int .i64 0], .int .i64 r]) (by simp only [results, Tryz.results9]; go_simp) rfl ?_
    exact ⟨by rw [hRes.out]; rfl, by exact bel_⟩
end Go.Proofs.YtmpmokefgdjnkaaGreat
/- Walks: MeasureOf, the reference. -/

namespace Go.Proofs.YtmpmokefgdjnkaaGreat
open Go.RowKit
attribute [local go_sem] BelowBy.cell BelowBy.cell_drew stillUpon givesUpon

set_option maxRecDepth 100000 in
set_option maxHeartbeats 8000000 in
theorem sMeasureOf_any (G T A C : Option Addr) (n cg m ct q ca k cc : Nat) (gs : List Gl) (ts : List Ti) (xs ys : List Pl) (t : Int) (w : World) (h : SA w G n T m A q gs ts xs) (h2 : SA w G n T m C k gs ts ys) :
    Calls Tryz.prog 6 #[.agg #[.slice G n cg, .slice T m ct, .slice A q ca, .int .i64 t], .agg #[.slice C k cc]] w (MsRes w (measR gs ts xs t ys)) := by
  have hA := Lib.hid h2
  have hkl := h2.A.len
  have htl := h.T.len
  have hgl := h.G.len
  have hSp := Lib.hid (show SysAt (((w.alloc (Obj.cells #[.slice G n cg, .slice T m ct, .slice A q ca, .int .i64 t] 45)).alloc (Obj.cells #[.slice C k cc] 43)).alloc (Obj.cells #[.int .i64 0, .int .i64 0, .int .i64 0, .int .i64 0, .int .i64 0, .int .i64 0, .int .i64 0] 34)) w.heap.size 0 gs ts xs t from (h.sysbox cg ct ca t).below (bl_al (bl_al (bl_refl _) _) _))
  have hAp := Lib.hid (show AsmAt (((w.alloc (Obj.cells #[.slice G n cg, .slice T m ct, .slice A q ca, .int .i64 t] 45)).alloc (Obj.cells #[.slice C k cc] 43)).alloc (Obj.cells #[.int .i64 0, .int .i64 0, .int .i64 0, .int .i64 0, .int .i64 0, .int .i64 0, .int .i64 0] 34)) (w.heap.size + 1) 0 ys from ⟨by simp, C, k, cc, by go_simp, h2.A.below RPl.stable (by exact bel_)⟩)
  have hk : ys.length ≤ 1073741824 := by rw [h2.A.len]; exact h2.q
  clear h h2
  obtain ⟨r, hrE⟩ : ∃ r, overI gs ts xs t ys = r := ⟨_, rfl⟩
  have hrH := Lib.hid hrE
  by_cases hr0 : r = 0
  · subst hr0
    have hg := overI_zero hrE
    have hsv := sysOkB_valid (growB_true hg.1).1
    have hVx := valid_of hsv.1
    have htp := temp_in hsv.2.2
    have hvY := (growB_true hg.1).2
    have hVy := valid_of hvY
    have hk5 : k ≤ 500 := by rw [← hkl]; exact hVy.len
    have hRes := Lib.hid (measR_yes hrE)
    clear hrE hg hsv
    go_enter Tryz.func6, Tryz.ntmps6
    go_wp2_with fail
    refine (l08Over_at hSp.out hAp.out hk hrH.out).mono ?_; rintro e w1 ⟨rfl, hb1⟩
    have hS1 := Lib.hid (hSp.out.below hb1)
    have hA1 := Lib.hid (hAp.out.below hb1)
    obtain ⟨chb1, fhb1, shb1, thb1⟩ := bcell hb1
    have a0 := shb1 w.heap.size (by go_simp)
    have a1 := shb1 (w.heap.size + 1) (by go_simp)
    have a2 := shb1 (w.heap.size + 1 + 1) (by go_simp)
    have k1 := Lib.hid (show Below w.heap.size w w1 from by exact bel_)
    have x00 : w1.cell? ⟨w.heap.size, 0, none⟩ = some (.slice G n cg) := by go_simp
    have x01 : w1.cell? ⟨w.heap.size, 1, none⟩ = some (.slice T m ct) := by go_simp
    have x10 : w1.cell? ⟨w.heap.size + 1, 0, none⟩ = some (.slice C k cc) := by go_simp
    have hZ : MsB w1 (w.heap.size + 1 + 1) Ms.zero := by
      refine MsB.below (w := (((w.alloc (Obj.cells #[.slice G n cg, .slice T m ct, .slice A q ca, .int .i64 t] 45)).alloc (Obj.cells #[.slice C k cc] 43)).alloc (Obj.cells #[.int .i64 0, .int .i64 0, .int .i64 0, .int .i64 0, .int .i64 0, .int .i64 0, .int .i64 0] 34))) ?_ hb1
      have := World.rowIs_alloc ((w.alloc (Obj.cells #[.slice G n cg, .slice T m ct, .slice A q ca, .int .i64 t] 45)).alloc (Obj.cells #[.slice C k cc] 43)) #[.int .i64 0, .int .i64 0, .int .i64 0, .int .i64 0, .int .i64 0, .int .i64 0, .int .i64 0] 34 (msF Ms.zero) (fun i hi => by
        match i, hi with
        | 0, _ => rfl
        | 1, _ => rfl
        | 2, _ => rfl
        | 3, _ => rfl
        | 4, _ => rfl
        | 5, _ => rfl
        | 6, _ => rfl)
      simp only [World.size_alloc] at this
      exact this
    have hZH := Lib.hid hZ
    clear chb1 fhb1 shb1 thb1 hb1 hZ hSp hAp
    have hsb := sumB_bound (bonds_s hVy)
    obtain ⟨AR, hAR⟩ : ∃ v, areaOf ys = v := ⟨_, rfl⟩
    obtain ⟨ST, hST⟩ : ∃ v, sumB (bondsL gs ts ys) = v := ⟨_, rfl⟩
    have hARH := Lib.hid hAR
    have hSTH := Lib.hid hST
    clear hAR hST hsb
    go_wp2_with fail
    refine wp_region_fl 5 [(0, .q), (1, .q), (2, .q), (3, .g), (4, .q)] [(6, .b)] _ (Obj.cells #[.int .i64 0, .int .i64 0, .int .i64 0, .int .i64 0, .int .i64 0, .int .i64 0, .int .i64 0] 34) (by kernel_rfl) (by kernel_rfl) (by kernel_rfl) (by kernel_rfl) rfl (fun a w => ⟨rfl, by unfold flPtr; go_simp⟩) ?_
    simp only [pick, List.filterMap_cons, List.filterMap_nil, List.getElem?_toArray, List.getElem?_cons_zero, List.getElem?_cons_succ, Option.map_some]
    repeat (first | ((with_reducible refine wpL_p (fun K hK => ?_)); go_simp; refine hK _ ?_; clear hK K) | ((with_reducible refine wpL_q (fun K hK => ?_)); go_simp; (first | refine hK _ ?_ | (go_bits; refine hK _ ?_) | (go_bits; go_simp; refine hK _ ?_)); clear hK K))
    with_reducible refine wpL_g rfl (fun K hK st4 u4 mv4 => ?_)
    have hu4 := mv4.below
    have fu4 := (FlAt.none (Obj.cells #[.int .i64 0, .int .i64 0, .int .i64 0, .int .i64 0, .int .i64 0, .int .i64 0, .int .i64 0] 34) (World.drew w1)).mv mv4
    have j4 : Below w1.heap.size w1 u4 := (Below.refl _ w1).drew.trans (hu4.mono (Nat.le_refl _))
    clear mv4
    go_simp
    refine (l34Area_any (hA1.out.below j4) hkl (by omega) hVy hARH.out).mono ?_; rintro e w2 ⟨rfl, hb2⟩
    refine ⟨_, rfl, hb2, hK _ _ _ ?_⟩
    clear hK K
    have fd4 := fu4.below hb2
    have j5 : Below w1.heap.size w1 w2 := j4.trans (hb2.mono j4.size)
    repeat (first | ((with_reducible refine wpL_p (fun K hK => ?_)); go_simp; refine hK _ ?_; clear hK K) | ((with_reducible refine wpL_q (fun K hK => ?_)); go_simp; (first | refine hK _ ?_ | (go_bits; refine hK _ ?_) | (go_bits; go_simp; refine hK _ ?_)); clear hK K))
    with_reducible refine wpL_nil (fun b7 w5 mvF => ?_)
    have huF := mvF.below
    obtain ⟨fl7, fb7⟩ := (fd4.mv mvF).2 _ rfl
    have j10 : Below w1.heap.size w1 w5 := j5.trans (huF.mono j5.size)
    have j10H := Lib.hid j10
    clear mvF
    simp only [World.size_drew] at fl7
    have hM0 : MsB w5 b7 Ms.zero := MsB.ofHeap fb7
    have hM0H := Lib.hid hM0
    have r0 := hM0.c0
    have r1 := hM0.c1
    have r2 := hM0.c2
    have r3 := hM0.c3
    have r4 := hM0.c4
    have r5 := hM0.c5
    have r6 := hM0.c6
    have r7 := hM0.fr 0
    have r8 := hM0.fr 1
    have r9 := hM0.fr 2
    have r10 := hM0.fr 3
    have r11 := hM0.fr 4
    have r12 := hM0.fr 5
    have r13 := hM0.fr 6
    simp only [flPtr]
    clear fu4 fd4 hu4 huF hb2 j4 j5 j10 fb7 hM0
    with_reducible refine wpD_b (fun K hK => ?_)
    go_simp
    refine hK _ _ ?_
    clear hK K
    repeat (first | ((with_reducible refine wpL_p (fun K hK => ?_)); go_simp; refine hK _ ?_; clear hK K) | ((with_reducible refine wpL_q (fun K hK => ?_)); go_simp; (first | refine hK _ ?_ | (go_bits; refine hK _ ?_) | (go_bits; go_simp; refine hK _ ?_)); clear hK K))
    with_reducible refine wpD_nil ?_
    have hM6 : MsB (((((((w5.setCell ⟨b7, 0, none⟩ (.int .i64 (k : Int))).setCell ⟨b7, 1, none⟩ (.int .i64 0)).setCell ⟨b7, 2, none⟩ (.int .i64 0)).setCell ⟨b7, 3, none⟩ (.int .i64 AR)).setCell ⟨b7, 4, none⟩ (.int .i64 0)).setCell ⟨b7, 5, none⟩ (.int .i64 0)).setCell ⟨b7, 6, none⟩ (.int .i64 0)) b7 ⟨(k : Int), 0, 0, AR, 0, 0, 0⟩ := (((((((hM0H.out.set0 (k : Int)).set1 0).set2 0).set3 AR).set4 0).set5 0).set6 0)
    have j6 : Below w1.heap.size w1 (((((((w5.setCell ⟨b7, 0, none⟩ (.int .i64 (k : Int))).setCell ⟨b7, 1, none⟩ (.int .i64 0)).setCell ⟨b7, 2, none⟩ (.int .i64 0)).setCell ⟨b7, 3, none⟩ (.int .i64 AR)).setCell ⟨b7, 4, none⟩ (.int .i64 0)).setCell ⟨b7, 5, none⟩ (.int .i64 0)).setCell ⟨b7, 6, none⟩ (.int .i64 0)) := (((((((j10H.out.setCell (p := ⟨b7, 0, none⟩) fl7 _).setCell (p := ⟨b7, 1, none⟩) fl7 _).setCell (p := ⟨b7, 2, none⟩) fl7 _).setCell (p := ⟨b7, 3, none⟩) fl7 _).setCell (p := ⟨b7, 4, none⟩) fl7 _).setCell (p := ⟨b7, 5, none⟩) fl7 _).setCell (p := ⟨b7, 6, none⟩) fl7 _)
    clear r0 r1 r2 r3 r4 r5 r6 r7 r8 r9 r10 r11 r12 r13 hM0H j10H
    generalize (((((((w5.setCell ⟨b7, 0, none⟩ (.int .i64 (k : Int))).setCell ⟨b7, 1, none⟩ (.int .i64 0)).setCell ⟨b7, 2, none⟩ (.int .i64 0)).setCell ⟨b7, 3, none⟩ (.int .i64 AR)).setCell ⟨b7, 4, none⟩ (.int .i64 0)).setCell ⟨b7, 5, none⟩ (.int .i64 0)).setCell ⟨b7, 6, none⟩ (.int .i64 0)) = w6 at hM6 j6 ⊢
    have hM6H := Lib.hid hM6
    have j6H := Lib.hid j6
    have hlt6 := hM6.lt
    clear hM6 j6
    go_wp2_with fail
    refine (l34Counts_any (hS1.out.below j6H.out).sat.s (hA1.out.below j6H.out) hVy hkl htl).mono ?_; rintro e w7 ⟨bc, rfl, hbc, hrowC, hb7⟩
    have j7H := Lib.hid (j6H.out.trans (hb7.mono j6H.out.size))
    have hM7H := Lib.hid (hM6H.out.below hb7)
    obtain ⟨L, hL⟩ : ∃ L, cntL ys m k = L := ⟨_, rfl⟩
    have hLl : L.length = m := by rw [← hL]; exact cntL_len ys m k
    have hLr : ∀ v ∈ L, 0 ≤ v ∧ v ≤ (k : Int) := by rw [← hL]; exact cntL_rng ys m k
    have hLH := Lib.hid hL
    have hm5 : m ≤ 160 := by rw [← htl]; exact hVy.tl
    rw [hL, hLl] at hrowC
    have hrowH := Lib.hid hrowC
    have hne7 : ¬ bc = b7 := by omega
    have hnb7 : ¬ b7 = bc := by omega
    clear hL hrowC hb7 hbc
    go_wp2
    go_loopg [9] m (fun g i wr => ∃ u : Nat, u + g = m ∧ i = .int .i64 (u : Int) ∧ Hid (Below w1.heap.size w1 wr) ∧ Hid (MsB wr b7 ⟨(k : Int), kindN L u, 0, AR, 0, 0, 0⟩) ∧ Hid (wr.rowIs bc 2 m (fun i => .int .i64 (L[i]?.getD 0))))
    case atStart => exact ⟨0, by omega, rfl, j7H, hM7H, hrowH⟩
    case round =>
      clear j7H hM7H hrowH hlt6 j6H hM6H
      obtain ⟨u, hu, rfl, hbr, hM, hrow⟩ := hrel
      have hlt7 := hM.out.lt
      by_cases hum : u < m
      · have v0 := hrow.out.cell hum
        obtain ⟨v, hv⟩ : ∃ v, L[u]? = some v := ⟨_, List.getElem?_eq_getElem (by omega)⟩
        rw [hv] at v0
        simp only [Option.getD_some] at v0
        have huI : (u : Int) < (m : Int) := by omega
        have hu0 : (0 : Int) ≤ (u : Int) := by omega
        have hkr := kindN_rng L u
        have hkn := Lib.hid (show kindN L (u + 1) = kindN L u + if 0 < v then 1 else 0 by simp only [kindN, hv, Option.getD_some])
        generalize kindN L u = X at hM hkn hkr
        have m1 := hM.out.c1
        have m2 := hM.out.fr 1
        have hw1 : IntKind.i64.wrap (X + 1) = X + 1 := by simp [IntKind.wrap, IntKind.bits, IntKind.signed]; omega
        clear hv
        by_cases hvp : 0 < v
        · rw [if_pos hvp] at hkn
          go_wp2
          go_roundg (m - (u + 1))
          case measure => omega
          case rel => exact ⟨u + 1, by omega, by go_num, Lib.hid (hbr.out.setCell (p := ⟨b7, 1, none⟩) fl7 _), Lib.hid (by rw [hkn.out]; exact hM.out.set1 (X + 1)), Lib.hid (hrow.out.setOther hne7 _)⟩
        · rw [if_neg hvp, Int.add_zero] at hkn
          go_wp2
          go_roundg (m - (u + 1))
          case measure => omega
          case rel => exact ⟨u + 1, by omega, by go_num, hbr, Lib.hid (by rw [hkn.out]; exact hM.out), hrow⟩
      · obtain rfl : u = m := by omega
        have hKV : kindN L u = kindN L u := rfl
        generalize hX : kindN L u = KV at hM
        have hXH := Lib.hid hX
        have huE : ¬ (u : Int) < (u : Int) := by omega
        clear hX hKV hrow hLr
        go_wp2_with fail
        refine (l34Glues_any (hS1.out.below hbr.out).sat.s (hA1.out.below hbr.out) hVy hkl hgl).mono ?_; rintro e w8 ⟨rfl, hrowG, hb8⟩
        have j8 := hbr.out.trans (hb8.mono hbr.out.size)
        have j8H := Lib.hid j8
        have hM8H := Lib.hid (hM.out.below hb8)
        obtain ⟨GV, hGV⟩ : ∃ v, glueN (usedI ts ys n k) = v := ⟨_, rfl⟩
        have hGVH := Lib.hid hGV
        have hn5 : n ≤ 200 := by rw [← hgl]; exact hVy.gl
        have hUl : (usedI ts ys n k).length = n + 1 := usedI_len ts ys n k
        have hcnt : ((cntB ((usedI ts ys n k).set 0 false) (n + 1) : Nat) : Int) = (GV : Int) := by rw [← hGV]; unfold glueN; rw [hUl]
        have hlt8 := hM8H.out.lt
        have n2 := hM8H.out.c2
        have n3 := hM8H.out.fr 2
        have hrowGH := Lib.hid hrowG
        have hcntH := Lib.hid hcnt
        clear hb8 hbr hM hlt7 hGV j8 hrowG hcnt
        go_wp2_with fail
        refine (l34Count_any hrowGH.out (by omega) (by rw [List.length_set]; exact hUl) hcntH.out).mono ?_; rintro e _ ⟨rfl, rfl⟩
        have y00 := (j8H.out.cell (p := ⟨w.heap.size, 0, none⟩) a0).trans x00
        have y01 := (j8H.out.cell (p := ⟨w.heap.size, 1, none⟩) a0).trans x01
        have y10 := (j8H.out.cell (p := ⟨w.heap.size + 1, 0, none⟩) a1).trans x10
        have j8b := j8H.out.setCell (p := ⟨b7, 2, none⟩) fl7 (.int .i64 (GV : Int))
        have q8b := Lib.hid (k1.out.trans (j8b.mono k1.out.size))
        go_wp2_with fail
        refine (TotalStrength_any (hA.out.below q8b.out) hvY hSTH.out).mono ?_
        rintro e w10 ⟨rfl, hb10⟩
        have j10 := j8b.trans (hb10.mono j8b.size)
        have hM10 := (hM8H.out.set2 (GV : Int)).below hb10
        have j10H := Lib.hid j10
        have hM10H := Lib.hid hM10
        have hlt10 := hM10.lt
        have n5 := hM10.c4
        have n6 := hM10.fr 4
        clear n2 n3 j8b j10 hM10 hb10 hlt8 j8H q8b hM8H hrowGH
        clear y00 y01 y10
        have y00 := (j10H.out.cell (p := ⟨w.heap.size, 0, none⟩) a0).trans x00
        have y01 := (j10H.out.cell (p := ⟨w.heap.size, 1, none⟩) a0).trans x01
        have y10 := (j10H.out.cell (p := ⟨w.heap.size + 1, 0, none⟩) a1).trans x10
        have j10b := j10H.out.setCell (p := ⟨b7, 4, none⟩) fl7 (.int .i64 ST)
        have j10bH := Lib.hid j10b
        clear j10b
        go_wp2_with fail
        refine (l06Misfits_any _ _ gs ts ys _ (hS1.out.below j10bH.out).sat.s (hA1.out.below j10bH.out) hVy).mono ?_
        rintro e w11 ⟨v, rfl, hrow, hb11⟩
        obtain ⟨Am, cm, rfl, rdm⟩ := rd_of_row hrow
        obtain ⟨MV, hMV⟩ : ∃ v, (misL ts (nbAll ys ys.length)).length = v := ⟨_, rfl⟩
        have hMVH := Lib.hid hMV
        rw [hMV]
        clear hrow rdm hMV
        have j11 := j10bH.out.trans (hb11.mono j10bH.out.size)
        have hM11 := (hM10H.out.set4 ST).below hb11
        have j11H := Lib.hid j11
        have hM11H := Lib.hid hM11
        have hlt11 := hM11.lt
        have l5 := hM11.c5
        have l6 := hM11.fr 5
        clear n5 n6 j11 hM11 hb11 hlt10 j10H j10bH hM10H
        clear y00 y01 y10
        have y00 := (j11H.out.cell (p := ⟨w.heap.size, 0, none⟩) a0).trans x00
        have y01 := (j11H.out.cell (p := ⟨w.heap.size, 1, none⟩) a0).trans x01
        have y10 := (j11H.out.cell (p := ⟨w.heap.size + 1, 0, none⟩) a1).trans x10
        have j11b := Lib.hid (j11H.out.setCell (p := ⟨b7, 5, none⟩) fl7 (.int .i64 (MV : Int)))
        go_wp2_with fail
        refine (l34Slack_any (hS1.out.below j11b.out) hVx (hA1.out.below j11b.out) hVy htp).mono ?_
        rintro e w12 ⟨SV, fS, rfl, hlo, hb12⟩
        have hSVH := Lib.hid hlo.eq
        have j12 := j11b.out.trans (hb12.mono j11b.out.size)
        have hM12 := (hM11H.out.set5 (MV : Int)).below hb12
        have hZ12 := hZH.out.below j12
        have q12 := Lib.hid (k1.out.trans (j12.mono k1.out.size))
        have hlt12 := hM12.lt
        have hltz := hZ12.lt
        have ne1 : ¬ b7 = w.heap.size + 1 + 1 := by have := hZH.out.lt; omega
        have ne2 : ¬ w.heap.size + 1 + 1 = b7 := fun e => ne1 e.symm
        clear l5 l6 j11b j11H hM11H hlt11 hb12 hlo
        clear y00 y01 y10
        have nc0 := hM12.c0
        have nc1 := hM12.c1
        have nc2 := hM12.c2
        have nc3 := hM12.c3
        have nc4 := hM12.c4
        have nc5 := hM12.c5
        have nc6 := hM12.c6
        have nf0 := hM12.fr 0
        have nf1 := hM12.fr 1
        have nf2 := hM12.fr 2
        have nf3 := hM12.fr 3
        have nf4 := hM12.fr 4
        have nf5 := hM12.fr 5
        have nf6 := hM12.fr 6
        have zc0 := hZ12.c0
        have zc1 := hZ12.c1
        have zc2 := hZ12.c2
        have zc3 := hZ12.c3
        have zc4 := hZ12.c4
        have zc5 := hZ12.c5
        have zc6 := hZ12.c6
        have zf0 := hZ12.fr 0
        have zf1 := hZ12.fr 1
        have zf2 := hZ12.fr 2
        have zf3 := hZ12.fr 3
        have zf4 := hZ12.fr 4
        have zf5 := hZ12.fr 5
        have zf6 := hZ12.fr 6
        have zb : w.heap.size ≤ b7 := by omega
        have zc : w.heap.size ≤ w.heap.size + 1 + 1 := by omega
        clear j12 hM12 hZ12 hZH x00 x01 x10
        go_wp2_with fail
        refine bodyPost_ret (v := .tuple #[.agg #[.int .i64 (k : Int), .int .i64 KV, .int .i64 (GV : Int), .int .i64 AR, .int .i64 ST, .int .i64 (MV : Int), .int .i64 SV], .int .i64 0]) (by simp only [results, Tryz.results6]; go_simp) rfl ?_
        refine ⟨?_, ?_⟩
        · rw [hRes.out]
          simp only [measM]
          rw [hSVH.out, hkl, htl, hgl, hLH.out, hXH.out, hGVH.out, hARH.out, hSTH.out, ← hkl, hMVH.out]
        · exact (((((((q12.out.setCell (p := ⟨b7, 6, none⟩) zb _).setCell (p := ⟨w.heap.size + 1 + 1, 0, none⟩) zc _).setCell (p := ⟨w.heap.size + 1 + 1, 1, none⟩) zc _).setCell (p := ⟨w.heap.size + 1 + 1, 2, none⟩) zc _).setCell (p := ⟨w.heap.size + 1 + 1, 3, none⟩) zc _).setCell (p := ⟨w.heap.size + 1 + 1, 4, none⟩) zc _).setCell (p := ⟨w.heap.size + 1 + 1, 5, none⟩) zc _).setCell (p := ⟨w.heap.size + 1 + 1, 6, none⟩) zc _
  · have hr1 : (r != 0) = true := by simpa using hr0
    have hRes := Lib.hid (measR_no hrE hr0)
    clear hrE
    go_enter Tryz.func6, Tryz.ntmps6
    go_wp2_with fail
    refine (l08Over_at hSp.out hAp.out hk hrH.out).mono ?_; rintro e w1 ⟨rfl, hb1⟩
    obtain ⟨chb1, fhb1, shb1, thb1⟩ := bcell hb1
    have a2 := shb1 (w.heap.size + 1 + 1) (by go_simp)
    go_wp2_with fail
    refine bodyPost_ret (v := .tuple #[.agg #[.int .i64 0, .int .i64 0, .int .i64 0, .int .i64 0, .int .i64 0, .int .i64 0, .int .i64 0], .int .i64 r]) (by simp only [results, Tryz.results6]; go_simp) rfl ?_
    exact ⟨by rw [hRes.out]; rfl, by exact bel_⟩
end Go.Proofs.YtmpmokefgdjnkaaGreat
