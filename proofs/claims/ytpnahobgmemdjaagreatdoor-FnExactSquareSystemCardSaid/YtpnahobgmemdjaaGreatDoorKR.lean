import Derived.Test.YtpnahobgmemdjaaGreatDoorKG
import Derived.Test.YtpnahobgmemdjaaGreatDoorKV
import Derived.Test.YtpnahobgmemdjaaGreatDoorKX
set_option linter.unusedSimpArgs false
set_option linter.unusedVariables false
/- Plain: the system of a square. -/



namespace Go.Proofs.YtpnahobgmemdjaaGreatDoor
open Go.RowKit Go.Shelf
def sqE (d k : Nat) : Pl := ⟨(d : Int) + 1, (k : Int), ((if k = 0 then 25 else 25 + d + k : Nat) : Int)⟩
def sqN (d k : Nat) : Pl := ⟨(k : Int), (d : Int) + 1, ((if k = 0 then 24 else 25 + k : Nat) : Int)⟩
def sqC (d : Nat) : Pl := ⟨(d : Int) + 1, (d : Int) + 1, ((26 + 2 * d : Nat) : Int)⟩
/-- the seed in its order -/
def seedQ (d : Nat) : List Pl := ((List.range (d + 1)).map (sqE d)) ++ ((List.range (d + 1)).map (sqN d)) ++ [sqC d]
/-- the seed's tiles as the program adds them -/
def lstQ (d i j : Nat) : List Pl := [sqN d 0, sqE d 0] ++ ((List.range i).map fun k => sqN d (k + 1)) ++ ((List.range j).map fun k => sqE d (k + 1))
theorem lstQ_n (d i : Nat) : lstQ d (i + 1) 0 = lstQ d i 0 ++ [sqN d (i + 1)] := by simp [lstQ, List.range_succ]
theorem lstQ_e (d i j : Nat) : lstQ d i (j + 1) = lstQ d i j ++ [sqE d (j + 1)] := by simp [lstQ, List.range_succ]
theorem lstQ_len (d i j : Nat) : (lstQ d i j).length = 2 + i + j := by simp [lstQ]; omega
theorem range_cons {α : Type} (f : Nat → α) (d : Nat) : (List.range (d + 1)).map f = f 0 :: (List.range d).map fun k => f (k + 1) := by
  rw [List.range_succ_eq_map, List.map_cons, List.map_map]; rfl
theorem lst_perm (d : Nat) : (lstQ d d d ++ [sqC d]).Perm (seedQ d) := by
  unfold seedQ lstQ
  rw [range_cons, range_cons]
  refine List.Perm.append_right _ ?_
  simp only [List.cons_append, List.nil_append]
  refine (List.Perm.swap _ _ _).trans (List.Perm.cons _ ?_)
  rw [← List.cons_append]
  exact List.perm_append_comm
theorem seed_sorted {d : Nat} (h : 1 ≤ d ∧ d ≤ 5) : SortPl (seedQ d) := by
  rcases (show d = 1 ∨ d = 2 ∨ d = 3 ∨ d = 4 ∨ d = 5 by omega) with rfl | rfl | rfl | rfl | rfl <;> (unfold SortPl; decide +kernel)
theorem sorted_apart {l : List Pl} (h : SortPl l) : l.Pairwise apart := List.Pairwise.imp (fun {a b} hab hh => by
  rw [ltPl_iff] at hab
  obtain ⟨h1, h2⟩ := hh
  omega) h
theorem lst_apart {d : Nat} (h : 1 ≤ d ∧ d ≤ 5) : (lstQ d d d ++ [sqC d]).Pairwise apart :=
  (lst_perm d).symm.pairwise (sorted_apart (seed_sorted h)) apart_symm
theorem lst_sort {d : Nat} (h : 1 ≤ d ∧ d ≤ 5) : sortPl (lstQ d d d ++ [sqC d]) = seedQ d := by
  refine List.Perm.eq_of_pairwise (le := fun a b => ltPl a b = true) ?_ (sortPl_strict (lst_apart h)) (seed_sorted h) ((List.mergeSort_perm _ lePl).trans (lst_perm d))
  intro a b _ _ h1 h2
  rw [ltPl_iff] at h1 h2
  omega
theorem seedQ_len (d : Nat) : (seedQ d).length = 2 * d + 3 := by simp [seedQ]; omega
/-- the last tiles -/
def tOut (gs : List Gl) : Ti := tlQ gs (1, 0, 0) [some (1, 0, 0), some (1, 0, 0), some (1, 0, 0), some (1, 0, 0)]
def tInn (gs : List Gl) : Ti := tlQ gs (2, 0, 0) [some (2, 0, 0), some (2, 0, 0), some (2, 0, 0), some (2, 0, 0)]
def tNl (gs : List Gl) : Ti := tlQ gs (3, 0, 0) [some (0, 0, 4), some (3, 0, 0), some (2, 0, 0), none]
def tEl (gs : List Gl) : Ti := tlQ gs (4, 0, 0) [some (4, 0, 0), some (0, 1, 4), none, some (2, 0, 0)]
/-- a digit -/
def bitN (d m k : Nat) : Nat := m / 2 ^ (d - 1 - k) % 2
def tNs (gs : List Gl) (d m k : Nat) : Ti := tlQ gs (5, k, 0) [some (0, 0, bitN d m k), some (3, k + 1, 0), some (2, 0, 0), some (3, k, 0)]
def tEs (gs : List Gl) (d m k : Nat) : Ti := tlQ gs (6, k, 0) [some (4, k + 1, 0), some (0, 1, bitN d m k), some (4, k, 0), some (2, 0, 0)]
def tCo (gs : List Gl) (d : Nat) : Ti := tlQ gs (7, 0, 0) [some (0, 0, 8), some (0, 1, 8), some (4, d, 0), some (3, d, 0)]
def endQ (gs : List Gl) (d m i j : Nat) : List Ti := [tNl gs, tEl gs] ++ ((List.range i).map (tNs gs d m)) ++ ((List.range j).map (tEs gs d m))
theorem endQ_n (gs : List Gl) (d m i : Nat) : endQ gs d m (i + 1) 0 = endQ gs d m i 0 ++ [tNs gs d m i] := by simp [endQ, List.range_succ]
theorem endQ_e (gs : List Gl) (d m i j : Nat) : endQ gs d m i (j + 1) = endQ gs d m i j ++ [tEs gs d m j] := by simp [endQ, List.range_succ]
theorem endQ_len (gs : List Gl) (d m i j : Nat) : (endQ gs d m i j).length = 2 + i + j := by simp [endQ]; omega
def gQ1 : List Cd := c0Q ++ cC 0 9
def gQ2 : List Cd := gQ1 ++ cC 1 9
def gQ3 (d : Nat) : List Cd := gQ2 ++ cS 3 (d + 1) ++ cS 4 (d + 1)
def tQ2 : List Ti := cntT (glQ gQ1) 0 11 ++ cntT (glQ gQ2) 1 11
def tQ3 (d : Nat) : List Ti := tQ2 ++ [tOut (glQ (gQ3 d))] ++ [tInn (glQ (gQ3 d))]
theorem tQ3_len (d : Nat) : (tQ3 d).length = 24 := by simp [tQ3, tQ2, cntT_len]
/-- the system of a square -/
def squareS (d m : Nat) : Sy := ⟨glQ (gQ3 d), tQ3 d ++ endQ (glQ (gQ3 d)) d m d d ++ [tCo (glQ (gQ3 d)) d], seedQ d, 2⟩
def squareR (side : Int) : Sy × Int := if inB side 4 22 then (squareS (dgP side.toNat) (2 ^ dgP side.toNat - stP side.toNat), 0) else noSy 2
theorem mem_gQ1 {c : Cd} (h : c ∈ gQ1) : ((c.1 = 1 ∨ c.1 = 2) ∧ c.2.1 = 0 ∧ c.2.2 = 0) ∨ (c.1 = 0 ∧ c.2.1 = 0 ∧ c.2.2 < 9) := by
  rcases List.mem_append.1 h with h | h
  · simp only [c0Q, List.mem_cons, List.not_mem_nil, or_false] at h
    rcases h with rfl | rfl <;> simp
  · rw [mem_cC] at h; exact .inr h
theorem mem_gQ2 {c : Cd} (h : c ∈ gQ2) : ((c.1 = 1 ∨ c.1 = 2) ∧ c.2.1 = 0 ∧ c.2.2 = 0) ∨ (c.1 = 0 ∧ c.2.1 < 2 ∧ c.2.2 < 9) := by
  rcases List.mem_append.1 h with h | h
  · have := mem_gQ1 h; omega
  · rw [mem_cC] at h; omega
theorem gQ2_V : ∀ c ∈ gQ2, c ∈ gV := fun c h => in_gV (by have := mem_gQ2 h; omega)
theorem gQ3_V {d i j : Nat} (hi : i ≤ 6) (hj : j ≤ 6) : ∀ c ∈ gQ2 ++ cS 3 i ++ cS 4 j, c ∈ gV := fun c h => by
  rcases List.mem_append.1 h with h | h
  · rcases List.mem_append.1 h with h | h
    · exact gQ2_V c h
    · rw [mem_cS] at h; exact in_gV (by omega)
  · rw [mem_cS] at h; exact in_gV (by omega)
theorem gQ2_len : gQ2.length = 20 := by simp [gQ2, gQ1, c0Q, cC_len]
theorem gQ3_len (i j : Nat) : (gQ2 ++ cS 3 i ++ cS 4 j).length = 20 + i + j := by simp only [List.length_append, gQ2_len, cS_len]
theorem four_tlQ (gs : List Gl) (c : Cd) (l : List (Option Cd)) (h : l.length = 4) : (tlQ gs c l).sides.length = 4 := by unfold tlQ; rw [List.length_map, h]
theorem cntS_four (p j : Nat) : (cntS p j).length = 4 := by unfold cntS; split <;> rfl
theorem trn_four {α : Type} {p : Nat} {l : List α} (h : l.length = 4) : (trnQ p l).length = 4 := by
  unfold trnQ
  split
  · exact h
  · match l, h with
    | [a, b, c, d], _ => rfl
theorem cntT_four (gs : List Gl) (p n : Nat) : Four (cntT gs p n) := by
  intro t ht
  obtain ⟨j, _, rfl⟩ := List.mem_map.1 ht
  exact four_tlQ _ _ _ (trn_four (cntS_four p j))
theorem squareS_four (d m : Nat) : Four (squareS d m).ts := by
  intro t ht
  simp only [squareS, tQ3, tQ2, endQ, List.mem_append, List.mem_cons, List.not_mem_nil, or_false, List.mem_map] at ht
  rcases ht with (((h | h) | h) | h) | h
  · rcases h with h | h
    · exact cntT_four _ _ _ t h
    · exact cntT_four _ _ _ t h
  · subst h; exact four_tlQ _ _ _ rfl
  · subst h; exact four_tlQ _ _ _ rfl
  · rcases h with ((h | h) | ⟨k, _, h⟩) | ⟨k, _, h⟩ <;> (subst h; exact four_tlQ _ _ _ rfl)
  · subst h; exact four_tlQ _ _ _ rfl
theorem squareR_small (side : Int) : SmallSy (squareR side).1 := by
  unfold squareR
  split
  · rename_i hv
    have hs := inB_true.1 hv
    have hp := parts_ok (s := side.toNat) (by omega) (by omega)
    refine ⟨?_, ?_, ?_, squareS_four _ _⟩
    · show (glQ (gQ3 _)).length ≤ 1000
      rw [glQ_len]; unfold gQ3; rw [gQ3_len]; omega
    · show (tQ3 _ ++ endQ _ _ _ _ _ ++ [_]).length ≤ 1000
      simp only [List.length_append, tQ3_len, endQ_len, List.length_cons, List.length_nil]; omega
    · show (seedQ _).length ≤ 1000
      rw [seedQ_len]; omega
  · exact noSy_small 2
theorem bitN_lt (d m k : Nat) : bitN d m k < 2 := Nat.mod_lt _ (by decide)
theorem nm_bit {b : Nat} (h : b < 2) : (⟨#[110, 118]⟩ : ByteArray) ++ decN b = gqn (0, 0, b) ∧ (⟨#[101, 118]⟩ : ByteArray) ++ decN b = gqn (0, 1, b) := by
  rw [decN_T (by omega)]
  rcases (show b = 0 ∨ b = 1 by omega) with rfl | rfl <;> decide +kernel
theorem s0_nm : gqn (3, 0, 0) = ⟨#[115, 110, 48]⟩ ∧ gqn (4, 0, 0) = ⟨#[115, 101, 48]⟩ := by
  rw [gqn_T (in_gV (by simp)), gqn_T (in_gV (by simp))]; decide +kernel
theorem sdQ_some {gs : List Gl} {c : Cd} {s : ByteArray} (h : gqn c = s) : (numG gs s : Int) = sdQ gs (some c) := by subst h; rfl
theorem sdQ_none {gs : List Gl} {s : ByteArray} (h : numG gs s = 0) : (numG gs s : Int) = sdQ gs none := by rw [h]; rfl
end Go.Proofs.YtpnahobgmemdjaaGreatDoor
/- Walks: the program's seed of a square, and SquareSystem. -/

namespace Go.Proofs.YtpnahobgmemdjaaGreatDoor
open Go.RowKit Go.Shelf
attribute [local go_sem] BelowBy.cell BelowBy.cell_drew stillUpon givesUpon

theorem sideOk_any (s : Int) (w : World) :
    Calls Tryz.prog 11 #[.int .i64 s] w fun e w' => e = .returned (.bool (inB s 4 22)) ∧ w = w' := by
  go_enter Tryz.func11, Tryz.ntmps11
  go_wp2_with (go_at_call 32; refine (within_any _ _ _ _).mono ?_; rintro e _ ⟨rfl, rfl⟩)
  go_ret
  exact ⟨rfl, rfl⟩
set_option maxRecDepth 100000 in
theorem power_any (d : Nat) (w : World) (hd : d ≤ 20) :
    Calls Tryz.prog 33 #[.int .i64 2, .int .i64 (d : Int)] w fun e w' => e = .returned (.int .i64 ((2 ^ d : Nat) : Int)) ∧ w = w' := by
  go_enter Tryz.func33, Tryz.ntmps33
  go_wp2
  go_loopg [7, 5] d (fun g i v wr => ∃ k : Nat, k + g = d ∧ i = .int .i64 (k : Int) ∧ v = .int .i64 ((2 ^ k : Nat) : Int) ∧ w = wr)
  case atStart => exact ⟨0, by omega, rfl, rfl, rfl⟩
  case round =>
    obtain ⟨k, hk, rfl, rfl, rfl⟩ := hrel
    obtain ⟨q, hq⟩ : ∃ q, 2 ^ k = q := ⟨_, rfl⟩
    have hqb : q ≤ 1048576 := by rw [← hq]; exact Nat.le_trans (Nat.pow_le_pow_right (by decide) (show k ≤ 20 by omega)) (by decide)
    have hq2 := Lib.hid (show 2 ^ (k + 1) = q * 2 by rw [Nat.pow_succ, hq])
    rw [hq]
    have hqH := Lib.hid hq
    clear hq
    by_cases hkd : k < d
    · have hkI : (k : Int) < (d : Int) := by omega
      have hw : IntKind.i64.wrap ((q : Int) * 2) = (q : Int) * 2 := wrapT (by omega) (by omega)
      go_wp2
      go_roundg (d - (k + 1))
      case measure => omega
      case rel => exact ⟨k + 1, by omega, by go_num, by rw [hq2.out]; exact congrArg (Value.int IntKind.i64) (by omega), rfl⟩
    · obtain rfl : k = d := by omega
      go_wp2
      go_ret
      exact ⟨ret_int (by rw [hqH.out]), rfl⟩
theorem okP_iff {s d : Nat} (h : d + 1 ≤ s) : okP s d = true ↔ (s - d - 1) % 2 = 0 ∧ (s - d - 1) / 2 ≤ 2 ^ d := by
  unfold okP; simp [h]
set_option maxRecDepth 100000 in
set_option maxHeartbeats 2000000 in
theorem squareParts_any (s : Nat) (w : World) (h1 : 4 ≤ s) (h2 : s ≤ 22) :
    Calls Tryz.prog 12 #[.int .i64 (s : Int)] w fun e w' => e = .returned (.tuple #[.int .i64 (dgP s : Int), .int .i64 (stP s : Int)]) ∧ w = w' := by
  obtain ⟨p1, p2, p3, p4, p5, p6⟩ := parts_ok h1 h2
  have hno := Lib.hid (fun d => parts_no (s := s) (d := d) h1 h2)
  obtain ⟨D, hD⟩ : ∃ D, dgP s = D := ⟨_, rfl⟩
  have hst := Lib.hid (show stP s = (s - D - 1) / 2 by unfold stP; rw [hD])
  rw [hD] at p1 p2 p3 p6 hno ⊢
  have p3H := Lib.hid p3
  clear p3 p4 p5 hD
  go_enter Tryz.func12, Tryz.ntmps12
  go_wp2
  go_loopg [4] D (fun g i wr => ∃ d : Nat, d + g = D + 1 ∧ 1 ≤ d ∧ d ≤ D ∧ i = .int .i64 (d : Int) ∧ w = wr)
  case atStart => exact ⟨1, by omega, by omega, by omega, rfl, rfl⟩
  case round =>
    obtain ⟨d, hd, hd1, hdD, rfl, rfl⟩ := hrel
    obtain ⟨r, hr⟩ : ∃ r : Nat, s - d - 1 = r := ⟨_, rfl⟩
    have e1 : (s : Int) - (d : Int) - 1 = (r : Int) := by omega
    have w1 : IntKind.i64.wrap ((s : Int) - (d : Int)) = (s : Int) - (d : Int) := wrapT (by omega) (by omega)
    have w2 : IntKind.i64.wrap ((s : Int) - (d : Int) - 1) = (r : Int) := by rw [wrapT (by omega) (by omega)]; exact e1
    have hdiv : Int.tdiv (r : Int) 2 = ((r / 2 : Nat) : Int) := rfl
    have hmod : Int.tmod (r : Int) 2 = ((r % 2 : Nat) : Int) := rfl
    have hrb : r ≤ 22 := by omega
    have w3 : IntKind.i64.wrap ((r / 2 : Nat) : Int) = ((r / 2 : Nat) : Int) := wrapT (by omega) (by omega)
    obtain ⟨q, hq⟩ : ∃ q, 2 ^ d = q := ⟨_, rfl⟩
    have hqH := Lib.hid hq
    have hrH := Lib.hid hr
    by_cases hok : okP s d = true
    · have hdD2 : d = D := by
        rcases Nat.lt_or_ge d D with hlt | hge
        · have := hno.out d hd1 hlt; rw [hok] at this; cases this
        · omega
      subst hdD2
      have ho := (okP_iff (by omega)).1 hok
      rw [hr, hq] at ho
      obtain ⟨o1, o2⟩ := ho
      obtain ⟨a, ha⟩ : ∃ a, r / 2 = a := ⟨_, rfl⟩
      have m0 : ((r % 2 : Nat) : Int) = 0 := by omega
      rw [ha] at hdiv w3 o2
      rw [m0] at hmod
      have hle : (a : Int) ≤ (q : Int) := by omega
      have haH := Lib.hid ha
      clear hok hr hq e1 o1 m0 ha
      go_wp2_with (go_at_call 33; refine (power_any d _ (by omega)).mono ?_; rw [hqH.out]; rintro e _ ⟨rfl, rfl⟩)
      refine bodyPost_ret (v := .tuple #[.int .i64 (d : Int), .int .i64 (a : Int)]) (by simp only [results, Tryz.results12]; go_simp) rfl ?_
      refine ⟨?_, rfl⟩
      rw [hst.out, hrH.out, haH.out]
    · have ho : ¬ ((s - d - 1) % 2 = 0 ∧ (s - d - 1) / 2 ≤ 2 ^ d) := fun h => hok ((okP_iff (by omega)).2 h)
      rw [hr, hq] at ho
      have hlt : d < D := by
        rcases Nat.lt_or_ge d D with hlt | hge
        · exact hlt
        · exfalso; apply hok; rw [show d = D by omega]; exact p3H.out
      obtain ⟨a, ha⟩ : ∃ a, r / 2 = a := ⟨_, rfl⟩
      rw [ha] at hdiv w3 ho
      by_cases o1 : r % 2 = 0
      · have m0 : ((r % 2 : Nat) : Int) = 0 := by omega
        rw [m0] at hmod
        have hle : ¬ (a : Int) ≤ (q : Int) := by omega
        clear hok hr hq e1 ho m0 ha o1
        go_wp2_with (go_at_call 33; refine (power_any d _ (by omega)).mono ?_; rw [hqH.out]; rintro e _ ⟨rfl, rfl⟩)
        go_roundg (D - d)
        case measure => omega
        case rel => exact ⟨d + 1, by omega, by omega, by omega, by go_num, rfl⟩
      · have m0 : ((r % 2 : Nat) : Int) = 1 := by omega
        rw [m0] at hmod
        clear hok hr hq e1 ho m0 ha o1
        go_wp2_with (go_at_call 33; refine (power_any d _ (by omega)).mono ?_; rw [hqH.out]; rintro e _ ⟨rfl, rfl⟩)
        go_roundg (D - d)
        case measure => omega
        case rel => exact ⟨d + 1, by omega, by omega, by omega, by go_num, rfl⟩
theorem cell_three_newS (w : World) (a b c : Value) (t : TypeId) : ∀ j u, [a, b, c][j]? = some u → (w.alloc (Obj.cells #[a, b, c] t)).cell? ((⟨w.heap.size, 0, none⟩ : Addr).add j) = some u := by
  intro j u hj
  match j, hj with
  | 0, hj => simp at hj; subst hj; simp [Addr.add]
  | 1, hj => simp at hj; subst hj; simp [Addr.add]
  | 2, hj => simp at hj; subst hj; simp [Addr.add]
  | j + 3, hj => simp at hj
theorem cell_six_newS (w : World) (a b c d e f : Value) (t : TypeId) : ∀ j u, [a, b, c, d, e, f][j]? = some u → (w.alloc (Obj.cells #[a, b, c, d, e, f] t)).cell? ((⟨w.heap.size, 0, none⟩ : Addr).add j) = some u := by
  intro j u hj
  match j, hj with
  | 0, hj => simp at hj; subst hj; simp [Addr.add]
  | 1, hj => simp at hj; subst hj; simp [Addr.add]
  | 2, hj => simp at hj; subst hj; simp [Addr.add]
  | 3, hj => simp at hj; subst hj; simp [Addr.add]
  | 4, hj => simp at hj; subst hj; simp [Addr.add]
  | 5, hj => simp at hj; subst hj; simp [Addr.add]
  | j + 6, hj => simp at hj
theorem BxT.grownS {w w' : World} {k : Nat} {T : TypeId} {l : List Value} {row : Option Nat} (h : BxT w k T l) (hg : w.grownBy w' row) (hne : row ≠ some k) : BxT w' k T l := by
  obtain ⟨h1, M, f, hr⟩ := h
  exact ⟨h1.grown hg hne, M, f, hr.of_block (hg.block k hr.lt (fun e => hne e.symm))⟩
theorem infoPlS : (Tryz.prog.info? 67).map (fun i => (i.zero, i.size, i.bytes)) = some (some (.agg #[.int .i64 0, .int .i64 0, .int .i64 0]), 3, 24) := by kernel_rfl
theorem plCells_snocQ (l : List Pl) (b : Pl) : plCells (l ++ [b]) = plCells l ++ [.int .i64 b.x, .int .i64 b.y, .int .i64 b.t] := plCells_snoc l b
theorem MkrX.setTS {w : World} {b bm q N i : Nat} {st : List Gl × List Ti} {X : Nat → Prop} {T : TypeId} {f : Nat → Value} (h : MkrX w b bm st X) (hr : w.rowIs q T N f) (hne : 50 ≠ T ∧ 69 ≠ T ∧ 73 ≠ T ∧ 2 ≠ T) (u : Value) : MkrX (w.setCell ⟨q, i, none⟩ u) b bm st X := by
  obtain ⟨n, A1, c1, B2, c2, us, h⟩ := h
  obtain ⟨M, f', hr'⟩ := h.ty
  have hbq : b ≠ q := fun e => by
    subst e
    obtain ⟨c1, h1, _⟩ := hr
    obtain ⟨c2, h2, _⟩ := hr'
    rw [h1] at h2
    injection h2 with h2
    injection h2 with _ h2
    exact hne.1 h2.symm
  have hmq : bm ≠ q := fun e => by
    subst e
    obtain ⟨es, clock, hh⟩ := h.mp.isMap
    obtain ⟨cur, h2, _⟩ := hr
    rw [hh] at h2
    cases h2
  have hg : w.grownBy (w.setCell ⟨q, i, none⟩ u) (some q) := ⟨rfl, rfl, rfl, by simp, fun k hk hne => Below.heap_setCell _ _ _ _ (fun e => hne (by rw [e]))⟩
  refine ⟨n, A1, c1, B2, c2, us, h.bx.setOther (a := ⟨q, i, none⟩) (Ne.symm hbq) u, ⟨M, f', hr'.of_block (Below.heap_setCell _ _ _ _ hbq)⟩, ownsRow_setCell_other (a := ⟨q, i, none⟩) h.gl (own_ne_row h.gl hr hne.2.1) u, h.ti.kept hg (fun g' e => ?_), h.mp.block (Below.heap_setCell _ _ _ _ hmq), h.le, h.lt, h.av⟩
  injection e with e
  subst e
  refine ⟨own_ne_row h.ti.outer hr hne.2.2.1, fun k u' hu' => ?_⟩
  obtain ⟨t, _, hr'⟩ := h.ti.get hu'
  exact own_ne_row hr' hr hne.2.2.2
set_option maxRecDepth 100000 in
set_option maxHeartbeats 8000000 in
theorem squareSeed_any (b bm d s : Nat) (w : World) (hM : Mkr w b bm (glQ (gQ3 d), tQ3 d)) (hT : TabB bm w) (hd : 1 ≤ d ∧ d ≤ 5) (hs : 1 ≤ s ∧ s ≤ 2 ^ d) :
    Calls Tryz.prog 18 #[.pointer (some ⟨b, 0, none⟩), .int .i64 (d : Int), .int .i64 (s : Int)] w fun e w' => ∃ B c, e = .returned (.agg #[.slice B (2 * d + 3) c]) ∧ Mkr w' b bm (glQ (gQ3 d), tQ3 d ++ endQ (glQ (gQ3 d)) d (2 ^ d - s) d d ++ [tCo (glQ (gQ3 d)) d]) ∧ w'.ownsRow w.heap.size 67 3 (.slice B (2 * d + 3) c) (2 * d + 3) (plCells (seedQ d)) ∧ Below bm w w' := by
  obtain ⟨iP, hiP, hP0, hP1, hP2⟩ := info_parts infoPlS
  have hlt := hM.lt
  obtain ⟨gs, hgs⟩ : ∃ gs, glQ (gQ3 d) = gs := ⟨_, rfl⟩
  obtain ⟨ts, hts⟩ : ∃ ts, tQ3 d = ts := ⟨_, rfl⟩
  have htl : ts.length = 24 := by rw [← hts]; exact tQ3_len d
  have hgl : gs.length ≤ 1000 := by rw [← hgs, glQ_len]; unfold gQ3; rw [gQ3_len]; omega
  have hdH := Lib.hid (show numG gs ⟨#[45]⟩ = 0 by rw [← hgs]; exact (num_dashQ (gQ3_V (d := d) (by omega) (by omega))).1)
  rw [hgs, hts] at hM
  rw [hgs, hts]
  have hH := Lib.hid hM
  have hTH := Lib.hid hT
  clear hM hT hgs hts
  obtain ⟨m, hm⟩ : ∃ m, 2 ^ d - s = m := ⟨_, rfl⟩
  rw [hm]
  obtain ⟨q, hq⟩ : ∃ q, 2 ^ d = q := ⟨_, rfl⟩
  have hqb : q ≤ 32 := by rw [← hq]; exact Nat.le_trans (Nat.pow_le_pow_right (by decide) hd.2) (by decide)
  have hqH := Lib.hid hq
  rw [hq] at hm hs
  have hwm : IntKind.i64.wrap ((q : Int) - (s : Int)) = (m : Int) := by rw [wrapT (by omega) (by omega)]; omega
  have hw1 : IntKind.i64.wrap ((d : Int) + 1) = (d : Int) + 1 := wrapT (by omega) (by omega)
  have hm32 : m ≤ 1000 := by omega
  clear hq hm
  have hal : Below w.heap.size w (w.alloc (Obj.cells #[.slice none 0 0] 28)) := bl_al (bl_refl _) _
  have bR0 := BxT.made w [.slice none 0 0] 28
  have knup := Lib.hid (show gqn (0, 0, 4) = ⟨#[110, 117, 112]⟩ by decide +kernel)
  have keup := Lib.hid (show gqn (0, 1, 4) = ⟨#[101, 117, 112]⟩ by decide +kernel)
  have kin := Lib.hid (show gqn (2, 0, 0) = ⟨#[105, 110]⟩ from rfl)
  have knx := Lib.hid (show gqn (0, 0, 8) = ⟨#[110, 110, 101, 120, 116]⟩ by decide +kernel)
  have kex := Lib.hid (show gqn (0, 1, 8) = ⟨#[101, 110, 101, 120, 116]⟩ by decide +kernel)
  go_enter Tryz.func18, Tryz.ntmps18
  go_wp2_with fail
  refine (power_any d _ (by omega)).mono ?_
  rw [hqH.out]
  rintro e w1 ⟨rfl, rfl⟩
  go_wp2_with fail
  refine (digitsOf_any d m _ hd hm32).mono ?_
  rintro e w2 ⟨gd, rfl, hgd, hdig, hb2⟩
  have jb2 : Below w.heap.size w w2 := hal.trans (hb2.mono (by simp))
  have hM2 := Lib.hid (hH.out.below jb2)
  have bR2 := Lib.hid (bR0.below hb2)
  have hdig2 := Lib.hid hdig
  have jb2H := Lib.hid jb2
  have lgd := hdig.lt
  clear hb2 hdig bR0 hal jb2
  obtain ⟨wr, hwr⟩ : ∃ x : World, x = w2 := ⟨_, rfl⟩
  subst hwr
  have hM := hM2
  have bR := bR2
  have hdig : Hid (wr.rowIs gd 2 d (fun i => .int .i64 ((bitN d m i : Nat) : Int))) := hdig2
  have hbw := Lib.hid (jb2H.out.mono (show bm ≤ w.heap.size by omega))
  have hXb := Lib.hid (fun (g : Nat) (e : False) => (e.elim : g < wr.heap.size))
  have hsw := jb2H.out.size
  have jb : Below wr.heap.size wr wr := bl_refl wr
  clear hM2 bR2 hdig2
  -- a tile with words of its own: at wr, with jb : Below wr.heap.size wr wr
  go_wp2_with fail
  have hjs := jb.size
  have jb2 : Below wr.heap.size wr (wr.alloc (Obj.cells #[.string ⟨#[110, 117, 112]⟩, .string ⟨#[115, 110, 48]⟩, .string ⟨#[105, 110]⟩, .string ⟨#[45]⟩] 9)) := bl_al jb _
  refine (tileQ_cd (X := (fun _ => False)) (gs := gs) (ts := ts) (c := (3, 0, 0)) (L := 24) (hM.out.below jb2) (fun g e => Nat.lt_of_lt_of_le (hXb.out g e) jb2.size) (rd4T wr _ _ _ _ _) rfl (in_tV (by simp <;> omega)) (sdQ_some knup.out) (sdQ_some s0_nm.1) (sdQ_some kin.out) (sdQ_none hdH.out) ⟨by decide, by decide, by decide, by decide⟩ hgl (by simp only [List.length_append, endQ_len, htl, List.length_cons, List.length_nil] <;> omega) (by omega)).mono ?_
  rintro e w6 ⟨rfl, hM6, hF6, hB6⟩
  have hF7 : Far MkTs wr w6 := (Far.of_below jb2).trans hF6
  have hB7 : Below bm wr w6 := (jb2.mono (show bm ≤ wr.heap.size by omega)).trans hB6
  have hM7 := Lib.hid hM6
  have bw7 := Lib.hid (hbw.out.trans hB7)
  have bR7 := Lib.hid (bR.out.far hF7 (by decide) hB7)
  have hdig7 := Lib.hid (rowIs_far hdig.out hF7 (by decide))
  clear hM6 hF6 hB6 jb jb2 hjs
  have hsz6 := hB7.size
  obtain ⟨wr, hwr⟩ : ∃ x : World, x = w6 := ⟨_, rfl⟩
  subst hwr
  have hM : Hid (Mkr wr b bm (gs, ts ++ [tNl gs])) := hM7
  have bR := bR7
  have hdig := hdig7
  have hbw := bw7
  have hXb := Lib.hid (fun (g : Nat) (e : False) => (e.elim : g < wr.heap.size))
  have jb : Below wr.heap.size wr wr := bl_refl wr
  clear hM7 bR7 hdig7 bw7 hF7 hB7
  -- a tile with words of its own: at wr, with jb : Below wr.heap.size wr wr
  go_wp2_with fail
  have hjs := jb.size
  have jb2 : Below wr.heap.size wr (wr.alloc (Obj.cells #[.string ⟨#[115, 101, 48]⟩, .string ⟨#[101, 117, 112]⟩, .string ⟨#[45]⟩, .string ⟨#[105, 110]⟩] 9)) := bl_al jb _
  refine (tileQ_cd (X := (fun _ => False)) (gs := gs) (ts := ts ++ [tNl gs]) (c := (4, 0, 0)) (L := 25) (hM.out.below jb2) (fun g e => Nat.lt_of_lt_of_le (hXb.out g e) jb2.size) (rd4T wr _ _ _ _ _) rfl (in_tV (by simp <;> omega)) (sdQ_some s0_nm.2) (sdQ_some keup.out) (sdQ_none hdH.out) (sdQ_some kin.out) ⟨by decide, by decide, by decide, by decide⟩ hgl (by simp only [List.length_append, endQ_len, htl, List.length_cons, List.length_nil] <;> omega) (by omega)).mono ?_
  rintro e w6 ⟨rfl, hM6, hF6, hB6⟩
  have hF7 : Far MkTs wr w6 := (Far.of_below jb2).trans hF6
  have hB7 : Below bm wr w6 := (jb2.mono (show bm ≤ wr.heap.size by omega)).trans hB6
  have hM7 := Lib.hid hM6
  have bw7 := Lib.hid (hbw.out.trans hB7)
  have bR7 := Lib.hid (bR.out.far hF7 (by decide) hB7)
  have hdig7 := Lib.hid (rowIs_far hdig.out hF7 (by decide))
  clear hM6 hF6 hB6 jb jb2 hjs
  have hsz7 := hB7.size
  obtain ⟨wr, hwr⟩ : ∃ x : World, x = w6 := ⟨_, rfl⟩
  subst hwr
  have hM : Hid (Mkr wr b bm (gs, ts ++ endQ gs d m 0 0)) := Lib.hid (by
    have h := hM7.out
    rw [List.append_assoc] at h
    exact h)
  have bR := bR7
  have hdig := hdig7
  have hbw := bw7
  clear hM7 bR7 hdig7 bw7 hF7 hB7
  have hal : Below wr.heap.size wr (wr.alloc (Obj.cells #[.int .i64 0, .int .i64 ((d : Int) + 1), .int .i64 24, .int .i64 ((d : Int) + 1), .int .i64 0, .int .i64 25] 67)) := bl_al (bl_refl _) _
  have halH := Lib.hid hal
  clear hal
  go_wp2_with (at_builtin; refine wpList_append_own_at _ rfl _ _ 26 rfl (w.heap.size + 1) 67 iP (.agg #[.int .i64 0, .int .i64 0, .int .i64 0]) 3 24 Tryz.underlying26 hiP hP0 hP1 hP2 rfl (by decide) (.slice none 0 0) 0 [] rfl (World.ownsRow_nil _ _ _ _) ⟨wr.heap.size, 0, none⟩ 2 2 [.int .i64 0, .int .i64 ((d : Int) + 1), .int .i64 24, .int .i64 ((d : Int) + 1), .int .i64 0, .int .i64 25] rfl rfl (cell_six_newS _ _ _ _ _ _ _ _) (fun x hx => by simp at hx; rcases hx with rfl | rfl | rfl | rfl | rfl | rfl <;> rfl) (by unfold maxLen; omega) (by omega) (by simp; omega) ?_; intro v9 w9 hown9 hgrow9 hat9 hat9b; obtain ⟨A9, c9, rfl⟩ := ownsRow_form hown9; have hown9H := Lib.hid hown9; have hgrow9H := Lib.hid hgrow9; have hat9H := Lib.hid (show (Value.slice A9 (0 + 2) c9).ownBlock = none ∨ (Value.slice A9 (0 + 2) c9).ownBlock = some (wr.alloc (Obj.cells #[.int .i64 0, .int .i64 ((d : Int) + 1), .int .i64 24, .int .i64 ((d : Int) + 1), .int .i64 0, .int .i64 25] 67)).heap.size by first | exact hat9 | exact hat9b); clear hown9 hgrow9 hat9 hat9b)
  have hjw := halH.out
  have hXX : Hid (MkrX w9 b bm (gs, ts ++ endQ gs d m 0 0) (fun q => (Value.slice A9 (2 + 0) c9).ownBlock = some q)) := Lib.hid (by
    refine (((hM.out.below hjw).clear_ (Y := fun q => (wr.alloc (Obj.cells #[.int .i64 0, .int .i64 ((d : Int) + 1), .int .i64 24, .int .i64 ((d : Int) + 1), .int .i64 0, .int .i64 25] 67)).heap.size ≤ q) (fun g e => .inr e)).grown hgrow9H.out (fun g e => by cases e)).clear_ (fun g e => .inl ?_)
    rcases hat9H.out with h2 | h2
    · rw [show (Value.slice A9 (2 + 0) c9).ownBlock = none from h2] at e; cases e
    · rw [show (Value.slice A9 (2 + 0) c9).ownBlock = _ from h2] at e
      injection e with e; omega)
  have hrow9 : Hid (w9.ownsRow (w.heap.size + 1) 67 3 (.slice A9 (2 + 0) c9) (2 + 0) (plCells (lstQ d 0 0))) := hown9H
  have hdig9 : Hid (w9.rowIs gd 2 d (fun i => .int .i64 ((bitN d m i : Nat) : Int))) := Lib.hid ((hdig.out.alloc _).of_block (hgrow9H.out.block gd (hdig.out.alloc _).lt (fun e => by cases e)))
  have bR9 : Hid (BxT w9 w.heap.size 28 [.slice none 0 0]) := Lib.hid ((bR.out.below hjw).grownS hgrow9H.out (fun e => by cases e))
  have bw9 : Hid (Below bm w w9) := Lib.hid ((hbw.out.trans (hjw.mono (by have := hbw.out.size; omega))).grown hgrow9H.out (by have := hbw.out.size; have := hjw.size; omega) (fun g e => by cases e))
  clear hjw hM hdig bR hbw halH hown9H hgrow9H hat9H hXb hsz6 hsz7 hsw lgd jb2H
  go_loopg [47, 8] d (fun gk i v wr => ∃ (k : Nat) (A : Option Addr) (c : Nat), k + gk = d ∧ i = .int .i64 (k : Int) ∧ v = .slice A (2 + k) c ∧ Hid (MkrX wr b bm (gs, ts ++ endQ gs d m k 0) (fun q => (Value.slice A (2 + k) c).ownBlock = some q)) ∧ Hid (wr.ownsRow (w.heap.size + 1) 67 3 (.slice A (2 + k) c) (2 + k) (plCells (lstQ d k 0))) ∧ Hid (wr.rowIs gd 2 d (fun i => .int .i64 ((bitN d m i : Nat) : Int))) ∧ Hid (BxT wr w.heap.size 28 [.slice none 0 0]) ∧ Hid (Below bm w wr))
  case atStart => exact ⟨0, A9, c9, by omega, rfl, rfl, hXX, hrow9, hdig9, bR9, bw9⟩
  case round =>
    clear hXX hrow9 hdig9 bR9 bw9
    obtain ⟨k, A, c, hk, rfl, rfl, hM, hrow, hdig, bR, hbw⟩ := hrel
    by_cases hkd : k < d
    · have hkI : (k : Int) < (d : Int) := by omega
      have e0 := hdig.out.cell (i := k) (by omega)
      have lgd := hdig.out.lt
      obtain ⟨bt, hbt⟩ : ∃ bt, bitN d m k = bt := ⟨_, rfl⟩
      have hbt2 : bt < 2 := by rw [← hbt]; exact bitN_lt _ _ _
      rw [hbt] at e0
      obtain ⟨k1, hk1⟩ : ∃ k1 : Nat, k + 1 = k1 := ⟨_, rfl⟩
      have hwk : IntKind.i64.wrap ((k : Int) + 1) = (k1 : Int) := by rw [wrapT (by omega) (by omega)]; omega
      have hk1b : k1 < 10 := by omega
      obtain ⟨nm, hnm⟩ : ∃ s, (⟨#[110, 115, 116, 97, 114, 116]⟩ : ByteArray) ++ decN k = s := ⟨_, rfl⟩
      obtain ⟨nv, hnv⟩ : ∃ s, (⟨#[110, 118]⟩ : ByteArray) ++ decN bt = s := ⟨_, rfl⟩
      obtain ⟨n1, hn1⟩ : ∃ s, (⟨#[115, 110]⟩ : ByteArray) ++ decN k1 = s := ⟨_, rfl⟩
      obtain ⟨n0, hn0⟩ : ∃ s, (⟨#[115, 110]⟩ : ByteArray) ++ decN k = s := ⟨_, rfl⟩
      have kT := Lib.hid (show tqn (5, k, 0) = nm by rw [← hnm]; rfl)
      have kV := Lib.hid (show gqn (0, 0, bt) = nv by rw [← hnv]; first | exact (nm_bit hbt2).1.symm | exact (nm_bit hbt2).2.symm)
      have k1H := Lib.hid (show gqn (3, k + 1, 0) = n1 by rw [← hn1, ← hk1]; rfl)
      have k0H := Lib.hid (show gqn (3, k, 0) = n0 by rw [← hn0]; rfl)
      have zv : nv.size ≤ 10 := by rw [← kV.out]; exact gqn_size (in_gV (by simp <;> omega))
      have z1 : n1.size ≤ 10 := by rw [← k1H.out]; exact gqn_size (in_gV (by simp <;> omega))
      have z0 : n0.size ≤ 10 := by rw [← k0H.out]; exact gqn_size (in_gV (by simp <;> omega))
      have hnmH := Lib.hid hnm
      have hnvH := Lib.hid hnv
      have hn1H := Lib.hid hn1
      have hn0H := Lib.hid hn0
      have hbtH := Lib.hid hbt
      have hk1H := Lib.hid hk1
      have hTr := Lib.hid (hTH.out.below hbw.out)
      have hszw := hbw.out.size
      have hlo : ∀ g, (Value.slice A (2 + k) c).ownBlock = some g → w.heap.size + 1 ≤ g := fun g e => (hrow.out.lt g e).1
      have hloH := Lib.hid hlo
      have hXb := Lib.hid (fun g (e : (Value.slice A (2 + k) c).ownBlock = some g) => (hrow.out.lt g e).2)
      have jb : Below wr.heap.size wr wr := bl_refl wr
      clear hnm hnv hn1 hn0 hbt hk1 hlo
      go_wp2_with fail
      refine (numbered_n (u := k) _ (by decide) (by omega) (hTr.out.here.below jb) hnmH.out).mono ?_
      rintro e w1 ⟨rfl, hb⟩
      replace jb := jb.trans (hb.mono jb.size)
      clear hb
      go_wp2_with fail
      refine (numbered_n (u := bt) _ (by decide) (by omega) (hTr.out.here.below jb) hnvH.out).mono ?_
      rintro e w2 ⟨rfl, hb⟩
      replace jb := jb.trans (hb.mono jb.size)
      clear hb
      go_wp2_with fail
      refine (numbered_n (u := k1) _ (by decide) (by omega) (hTr.out.here.below jb) hn1H.out).mono ?_
      rintro e w3 ⟨rfl, hb⟩
      replace jb := jb.trans (hb.mono jb.size)
      clear hb
      go_wp2_with fail
      refine (numbered_n (u := k) _ (by decide) (by omega) (hTr.out.here.below jb) hn0H.out).mono ?_
      rintro e w4 ⟨rfl, hb⟩
      replace jb := jb.trans (hb.mono jb.size)
      clear hb
      -- a tile with words of its own: at w4, with jb : Below wr.heap.size wr w4
      go_wp2_with fail
      have hjs := jb.size
      have jb2 : Below wr.heap.size wr (w4.alloc (Obj.cells #[.string nv, .string n1, .string ⟨#[105, 110]⟩, .string n0] 9)) := bl_al jb _
      refine (tileQ_cd (X := _) (gs := gs) (ts := ts ++ endQ gs d m k 0) (c := (5, k, 0)) (L := 26 + k) (hM.out.below jb2) (fun g e => Nat.lt_of_lt_of_le (hXb.out g e) jb2.size) (rd4T w4 _ _ _ _ _) kT.out (in_tV (by simp <;> omega)) (sdQ_some kV.out) (sdQ_some k1H.out) (sdQ_some kin.out) (sdQ_some k0H.out) ⟨zv, z1, by decide, z0⟩ hgl (by simp only [List.length_append, endQ_len, htl, List.length_cons, List.length_nil] <;> omega) (by omega)).mono ?_
      rintro e w6 ⟨rfl, hM6, hF6, hB6⟩
      have hF7 : Far MkTs wr w6 := (Far.of_below jb2).trans hF6
      have hB7 : Below bm wr w6 := (jb2.mono (show bm ≤ wr.heap.size by omega)).trans hB6
      have hM7 := Lib.hid hM6
      have bw7 := Lib.hid (hbw.out.trans hB7)
      have bR7 := Lib.hid (bR.out.far hF7 (by decide) hB7)
      have hdig7 := Lib.hid (rowIs_far hdig.out hF7 (by decide))
      clear hM6 hF6 hB6 jb jb2 hjs
      replace hM7 : Hid (MkrX w6 b bm (gs, ts ++ endQ gs d m (k + 1) 0) (fun q => (Value.slice A (2 + k) c).ownBlock = some q)) := Lib.hid (by
        have h := hM7.out
        rw [List.append_assoc] at h
        rw [endQ_n]
        unfold tNs
        rw [hbtH.out]
        exact h)
      have hrow6 := ownsRow_far hrow.out hF7 (by decide)
      have hs6 := hB7.size
      have hal : Below w6.heap.size w6 (w6.alloc (Obj.cells #[.int .i64 (k1 : Int), .int .i64 ((d : Int) + 1), .int .i64 ((26 + k : Nat) : Int)] 67)) := bl_al (bl_refl _) _
      have hrow7H := Lib.hid (ownsRow_below hrow6 hal)
      have halH := Lib.hid hal
      clear hrow6 hal
      obtain ⟨tk, htk⟩ : ∃ tk : Nat, 26 + k = tk := ⟨_, rfl⟩
      have htkH := Lib.hid htk
      rw [htk] at halH hrow7H ⊢
      clear htk
      go_wp2_with (at_builtin; refine wpList_append_own_at _ rfl _ _ 26 rfl (w.heap.size + 1) 67 iP (.agg #[.int .i64 0, .int .i64 0, .int .i64 0]) 3 24 Tryz.underlying26 hiP hP0 hP1 hP2 rfl (by decide) (.slice A (2 + k) c) ((2 + k)) (plCells (lstQ d k 0)) rfl hrow7H.out ⟨w6.heap.size, 0, none⟩ 1 1 [.int .i64 (k1 : Int), .int .i64 ((d : Int) + 1), .int .i64 (tk : Int)] rfl rfl (cell_three_newS _ _ _ _ _) (fun x hx => by simp at hx; rcases hx with rfl | rfl | rfl <;> rfl) (by unfold maxLen; omega) (by omega) (by simp; omega) ?_; intro v9 w9 hown9 hgrow9 hat9 hat9b; obtain ⟨A9, c9, rfl⟩ := ownsRow_form hown9; have hown9H := Lib.hid hown9; have hgrow9H := Lib.hid hgrow9; have hat9H := Lib.hid (show (Value.slice A9 ((2 + k) + 1) c9).ownBlock = (Value.slice A (2 + k) c).ownBlock ∨ (Value.slice A9 ((2 + k) + 1) c9).ownBlock = some (w6.alloc (Obj.cells #[.int .i64 (k1 : Int), .int .i64 ((d : Int) + 1), .int .i64 (tk : Int)] 67)).heap.size by first | exact hat9 | exact hat9b); clear hown9 hgrow9 hat9 hat9b)
      have hjw := halH.out
      have hM9 : Hid (MkrX w9 b bm (gs, ts ++ endQ gs d m (k + 1) 0) (fun q => (Value.slice A9 ((2 + k) + 1) c9).ownBlock = some q)) := Lib.hid (by
        refine (((hM7.out.below hjw).clear_ (Y := fun q => (Value.slice A (2 + k) c).ownBlock = some q ∨ (w6.alloc (Obj.cells #[.int .i64 (k1 : Int), .int .i64 ((d : Int) + 1), .int .i64 (tk : Int)] 67)).heap.size ≤ q) (fun g e => e)).grown hgrow9H.out (fun g e => ⟨.inl e, by have := hloH.out g e; omega⟩)).clear_ (fun g e => .inl ?_)
        rcases hat9H.out with h2 | h2
        · exact .inl (h2.symm.trans e)
        · rw [h2] at e
          injection e with e
          exact .inr (by omega))
      have hrow9 : Hid (w9.ownsRow (w.heap.size + 1) 67 3 (.slice A9 ((2 + k) + 1) c9) ((2 + k) + 1) (plCells ((lstQ d k 0) ++ [⟨(k1 : Int), (d : Int) + 1, (tk : Int)⟩]))) := Lib.hid (by rw [plCells_snoc]; exact hown9H.out)
      have hdig9 := Lib.hid ((hdig7.out.of_block (hjw.block gd hdig7.out.lt)).of_block (hgrow9H.out.block gd (hdig7.out.of_block (hjw.block gd hdig7.out.lt)).lt (fun e => own_ne_row (hrow7H.out) (hdig7.out.of_block (hjw.block gd hdig7.out.lt)) (by decide) e.symm)))
      have bR9 := Lib.hid ((bR7.out.below hjw).grownS hgrow9H.out (fun e => by have := hloH.out _ e; omega))
      have bw9 : Hid (Below bm w w9) := Lib.hid ((bw7.out.trans (hjw.mono (by have := bw7.out.size; omega))).grown hgrow9H.out (by have := bw7.out.size; have := hjw.size; omega) (fun g e => by have := hloH.out g e; omega))
      clear hjw hM7 hdig7 bR7 bw7 halH hown9H hgrow9H hat9H hXb hM hrow hdig bR hbw hrow7H hF7 hB7 e0 lgd
      go_roundg (d - (k + 1))
      case measure => omega
      case rel => exact ⟨k + 1, A9, c9, by omega, (by have h9 := hk1H.out; rw [← h9]), rfl, hM9, Lib.hid (by
        rw [lstQ_n, show sqN d (k + 1) = ⟨(k1 : Int), (d : Int) + 1, (tk : Int)⟩ by unfold sqN; rw [← htkH.out, ← hk1H.out, if_neg (Nat.succ_ne_zero k), show 25 + (k + 1) = 26 + k by omega]]
        exact hrow9.out), hdig9, bR9, bw9⟩
    · obtain rfl : k = d := by omega
      go_wp2_with fail
      go_loopg [78, 8] k (fun gk i v wr => ∃ (j : Nat) (A : Option Addr) (c : Nat), j + gk = k ∧ i = .int .i64 (j : Int) ∧ v = .slice A (2 + k + j) c ∧ Hid (MkrX wr b bm (gs, ts ++ endQ gs k m k j) (fun q => (Value.slice A (2 + k + j) c).ownBlock = some q)) ∧ Hid (wr.ownsRow (w.heap.size + 1) 67 3 (.slice A (2 + k + j) c) (2 + k + j) (plCells (lstQ k k j))) ∧ Hid (wr.rowIs gd 2 k (fun i => .int .i64 ((bitN k m i : Nat) : Int))) ∧ Hid (BxT wr w.heap.size 28 [.slice none 0 0]) ∧ Hid (Below bm w wr))
      case atStart => exact ⟨0, A, c, by omega, rfl, rfl, hM, hrow, hdig, bR, hbw⟩
      case round =>
        clear hM hrow hdig bR hbw
        obtain ⟨j, A, c, hj, rfl, rfl, hM, hrow, hdig, bR, hbw⟩ := hrel
        by_cases hjd : j < k
        · have hjI : (j : Int) < (k : Int) := by omega
          have e0 := hdig.out.cell (i := j) (by omega)
          have lgd := hdig.out.lt
          obtain ⟨bt, hbt⟩ : ∃ bt, bitN k m j = bt := ⟨_, rfl⟩
          have hbt2 : bt < 2 := by rw [← hbt]; exact bitN_lt _ _ _
          rw [hbt] at e0
          obtain ⟨k1, hk1⟩ : ∃ k1 : Nat, j + 1 = k1 := ⟨_, rfl⟩
          have hwk : IntKind.i64.wrap ((j : Int) + 1) = (k1 : Int) := by rw [wrapT (by omega) (by omega)]; omega
          have hk1b : k1 < 10 := by omega
          obtain ⟨nm, hnm⟩ : ∃ s, (⟨#[101, 115, 116, 97, 114, 116]⟩ : ByteArray) ++ decN j = s := ⟨_, rfl⟩
          obtain ⟨nv, hnv⟩ : ∃ s, (⟨#[101, 118]⟩ : ByteArray) ++ decN bt = s := ⟨_, rfl⟩
          obtain ⟨n1, hn1⟩ : ∃ s, (⟨#[115, 101]⟩ : ByteArray) ++ decN k1 = s := ⟨_, rfl⟩
          obtain ⟨n0, hn0⟩ : ∃ s, (⟨#[115, 101]⟩ : ByteArray) ++ decN j = s := ⟨_, rfl⟩
          have kT := Lib.hid (show tqn (6, j, 0) = nm by rw [← hnm]; rfl)
          have kV := Lib.hid (show gqn (0, 1, bt) = nv by rw [← hnv]; first | exact (nm_bit hbt2).1.symm | exact (nm_bit hbt2).2.symm)
          have k1H := Lib.hid (show gqn (4, j + 1, 0) = n1 by rw [← hn1, ← hk1]; rfl)
          have k0H := Lib.hid (show gqn (4, j, 0) = n0 by rw [← hn0]; rfl)
          have zv : nv.size ≤ 10 := by rw [← kV.out]; exact gqn_size (in_gV (by simp <;> omega))
          have z1 : n1.size ≤ 10 := by rw [← k1H.out]; exact gqn_size (in_gV (by simp <;> omega))
          have z0 : n0.size ≤ 10 := by rw [← k0H.out]; exact gqn_size (in_gV (by simp <;> omega))
          have hnmH := Lib.hid hnm
          have hnvH := Lib.hid hnv
          have hn1H := Lib.hid hn1
          have hn0H := Lib.hid hn0
          have hbtH := Lib.hid hbt
          have hk1H := Lib.hid hk1
          have hTr := Lib.hid (hTH.out.below hbw.out)
          have hszw := hbw.out.size
          have hlo : ∀ g, (Value.slice A (2 + k + j) c).ownBlock = some g → w.heap.size + 1 ≤ g := fun g e => (hrow.out.lt g e).1
          have hloH := Lib.hid hlo
          have hXb := Lib.hid (fun g (e : (Value.slice A (2 + k + j) c).ownBlock = some g) => (hrow.out.lt g e).2)
          have jb : Below wr.heap.size wr wr := bl_refl wr
          clear hnm hnv hn1 hn0 hbt hk1 hlo
          go_wp2_with fail
          refine (numbered_n (u := j) _ (by decide) (by omega) (hTr.out.here.below jb) hnmH.out).mono ?_
          rintro e w1 ⟨rfl, hb⟩
          replace jb := jb.trans (hb.mono jb.size)
          clear hb
          go_wp2_with fail
          refine (numbered_n (u := k1) _ (by decide) (by omega) (hTr.out.here.below jb) hn1H.out).mono ?_
          rintro e w2 ⟨rfl, hb⟩
          replace jb := jb.trans (hb.mono jb.size)
          clear hb
          go_wp2_with fail
          refine (numbered_n (u := bt) _ (by decide) (by omega) (hTr.out.here.below jb) hnvH.out).mono ?_
          rintro e w3 ⟨rfl, hb⟩
          replace jb := jb.trans (hb.mono jb.size)
          clear hb
          go_wp2_with fail
          refine (numbered_n (u := j) _ (by decide) (by omega) (hTr.out.here.below jb) hn0H.out).mono ?_
          rintro e w4 ⟨rfl, hb⟩
          replace jb := jb.trans (hb.mono jb.size)
          clear hb
          -- a tile with words of its own: at w4, with jb : Below wr.heap.size wr w4
          go_wp2_with fail
          have hjs := jb.size
          have jb2 : Below wr.heap.size wr (w4.alloc (Obj.cells #[.string n1, .string nv, .string n0, .string ⟨#[105, 110]⟩] 9)) := bl_al jb _
          refine (tileQ_cd (X := _) (gs := gs) (ts := ts ++ endQ gs k m k j) (c := (6, j, 0)) (L := 26 + k + j) (hM.out.below jb2) (fun g e => Nat.lt_of_lt_of_le (hXb.out g e) jb2.size) (rd4T w4 _ _ _ _ _) kT.out (in_tV (by simp <;> omega)) (sdQ_some k1H.out) (sdQ_some kV.out) (sdQ_some k0H.out) (sdQ_some kin.out) ⟨z1, zv, z0, by decide⟩ hgl (by simp only [List.length_append, endQ_len, htl, List.length_cons, List.length_nil] <;> omega) (by omega)).mono ?_
          rintro e w6 ⟨rfl, hM6, hF6, hB6⟩
          have hF7 : Far MkTs wr w6 := (Far.of_below jb2).trans hF6
          have hB7 : Below bm wr w6 := (jb2.mono (show bm ≤ wr.heap.size by omega)).trans hB6
          have hM7 := Lib.hid hM6
          have bw7 := Lib.hid (hbw.out.trans hB7)
          have bR7 := Lib.hid (bR.out.far hF7 (by decide) hB7)
          have hdig7 := Lib.hid (rowIs_far hdig.out hF7 (by decide))
          clear hM6 hF6 hB6 jb jb2 hjs
          replace hM7 : Hid (MkrX w6 b bm (gs, ts ++ endQ gs k m k (j + 1)) (fun q => (Value.slice A (2 + k + j) c).ownBlock = some q)) := Lib.hid (by
            have h := hM7.out
            rw [List.append_assoc] at h
            rw [endQ_e]
            unfold tEs
            rw [hbtH.out]
            exact h)
          have hrow6 := ownsRow_far hrow.out hF7 (by decide)
          have hs6 := hB7.size
          have hal : Below w6.heap.size w6 (w6.alloc (Obj.cells #[.int .i64 ((k : Int) + 1), .int .i64 (k1 : Int), .int .i64 ((26 + k + j : Nat) : Int)] 67)) := bl_al (bl_refl _) _
          have hrow7H := Lib.hid (ownsRow_below hrow6 hal)
          have halH := Lib.hid hal
          clear hrow6 hal
          obtain ⟨tk, htk⟩ : ∃ tk : Nat, 26 + k + j = tk := ⟨_, rfl⟩
          have htkH := Lib.hid htk
          rw [htk] at halH hrow7H ⊢
          clear htk
          go_wp2_with (at_builtin; refine wpList_append_own_at _ rfl _ _ 26 rfl (w.heap.size + 1) 67 iP (.agg #[.int .i64 0, .int .i64 0, .int .i64 0]) 3 24 Tryz.underlying26 hiP hP0 hP1 hP2 rfl (by decide) (.slice A (2 + k + j) c) ((2 + k + j)) (plCells (lstQ k k j)) rfl hrow7H.out ⟨w6.heap.size, 0, none⟩ 1 1 [.int .i64 ((k : Int) + 1), .int .i64 (k1 : Int), .int .i64 (tk : Int)] rfl rfl (cell_three_newS _ _ _ _ _) (fun x hx => by simp at hx; rcases hx with rfl | rfl | rfl <;> rfl) (by unfold maxLen; omega) (by omega) (by simp; omega) ?_; intro v9 w9 hown9 hgrow9 hat9 hat9b; obtain ⟨A9, c9, rfl⟩ := ownsRow_form hown9; have hown9H := Lib.hid hown9; have hgrow9H := Lib.hid hgrow9; have hat9H := Lib.hid (show (Value.slice A9 ((2 + k + j) + 1) c9).ownBlock = (Value.slice A (2 + k + j) c).ownBlock ∨ (Value.slice A9 ((2 + k + j) + 1) c9).ownBlock = some (w6.alloc (Obj.cells #[.int .i64 ((k : Int) + 1), .int .i64 (k1 : Int), .int .i64 (tk : Int)] 67)).heap.size by first | exact hat9 | exact hat9b); clear hown9 hgrow9 hat9 hat9b)
          have hjw := halH.out
          have hM9 : Hid (MkrX w9 b bm (gs, ts ++ endQ gs k m k (j + 1)) (fun q => (Value.slice A9 ((2 + k + j) + 1) c9).ownBlock = some q)) := Lib.hid (by
            refine (((hM7.out.below hjw).clear_ (Y := fun q => (Value.slice A (2 + k + j) c).ownBlock = some q ∨ (w6.alloc (Obj.cells #[.int .i64 ((k : Int) + 1), .int .i64 (k1 : Int), .int .i64 (tk : Int)] 67)).heap.size ≤ q) (fun g e => e)).grown hgrow9H.out (fun g e => ⟨.inl e, by have := hloH.out g e; omega⟩)).clear_ (fun g e => .inl ?_)
            rcases hat9H.out with h2 | h2
            · exact .inl (h2.symm.trans e)
            · rw [h2] at e
              injection e with e
              exact .inr (by omega))
          have hrow9 : Hid (w9.ownsRow (w.heap.size + 1) 67 3 (.slice A9 ((2 + k + j) + 1) c9) ((2 + k + j) + 1) (plCells ((lstQ k k j) ++ [⟨(k : Int) + 1, (k1 : Int), (tk : Int)⟩]))) := Lib.hid (by rw [plCells_snoc]; exact hown9H.out)
          have hdig9 := Lib.hid ((hdig7.out.of_block (hjw.block gd hdig7.out.lt)).of_block (hgrow9H.out.block gd (hdig7.out.of_block (hjw.block gd hdig7.out.lt)).lt (fun e => own_ne_row (hrow7H.out) (hdig7.out.of_block (hjw.block gd hdig7.out.lt)) (by decide) e.symm)))
          have bR9 := Lib.hid ((bR7.out.below hjw).grownS hgrow9H.out (fun e => by have := hloH.out _ e; omega))
          have bw9 : Hid (Below bm w w9) := Lib.hid ((bw7.out.trans (hjw.mono (by have := bw7.out.size; omega))).grown hgrow9H.out (by have := bw7.out.size; have := hjw.size; omega) (fun g e => by have := hloH.out g e; omega))
          clear hjw hM7 hdig7 bR7 bw7 halH hown9H hgrow9H hat9H hXb hM hrow hdig bR hbw hrow7H hF7 hB7 e0 lgd
          go_roundg (k - (j + 1))
          case measure => omega
          case rel => exact ⟨j + 1, A9, c9, by omega, (by have h9 := hk1H.out; rw [← h9]), rfl, hM9, Lib.hid (by
            rw [lstQ_e, show sqE k (j + 1) = ⟨(k : Int) + 1, (k1 : Int), (tk : Int)⟩ by unfold sqE; rw [← htkH.out, ← hk1H.out, if_neg (Nat.succ_ne_zero j), show 25 + k + (j + 1) = 26 + k + j by omega]]
            exact hrow9.out), hdig9, bR9, bw9⟩
        · obtain rfl : j = k := by omega
          have hTr := Lib.hid (hTH.out.below hbw.out)
          have hszw := hbw.out.size
          have hlo : ∀ g, (Value.slice A (2 + j + j) c).ownBlock = some g → w.heap.size + 1 ≤ g := fun g e => (hrow.out.lt g e).1
          have hloH := Lib.hid hlo
          have hXb := Lib.hid (fun g (e : (Value.slice A (2 + j + j) c).ownBlock = some g) => (hrow.out.lt g e).2)
          have jb : Below wr.heap.size wr wr := bl_refl wr
          have e0 := hdig.out.lt
          have lgd := hdig.out.lt
          obtain ⟨ne, hne⟩ : ∃ s, (⟨#[115, 101]⟩ : ByteArray) ++ decN j = s := ⟨_, rfl⟩
          obtain ⟨nn, hnn⟩ : ∃ s, (⟨#[115, 110]⟩ : ByteArray) ++ decN j = s := ⟨_, rfl⟩
          have keH := Lib.hid (show gqn (4, j, 0) = ne by rw [← hne]; rfl)
          have knH := Lib.hid (show gqn (3, j, 0) = nn by rw [← hnn]; rfl)
          have ze : ne.size ≤ 10 := by rw [← keH.out]; exact gqn_size (in_gV (by simp <;> omega))
          have zn : nn.size ≤ 10 := by rw [← knH.out]; exact gqn_size (in_gV (by simp <;> omega))
          have hneH := Lib.hid hne
          have hnnH := Lib.hid hnn
          clear hne hnn hlo
          go_wp2_with fail
          refine (numbered_n (u := j) _ (by decide) (by omega) (hTr.out.here.below jb) hneH.out).mono ?_
          rintro e w1 ⟨rfl, hb⟩
          replace jb := jb.trans (hb.mono jb.size)
          clear hb
          go_wp2_with fail
          refine (numbered_n (u := j) _ (by decide) (by omega) (hTr.out.here.below jb) hnnH.out).mono ?_
          rintro e w2 ⟨rfl, hb⟩
          replace jb := jb.trans (hb.mono jb.size)
          clear hb
          -- a tile with words of its own: at w2, with jb : Below wr.heap.size wr w2
          go_wp2_with fail
          have hjs := jb.size
          have jb2 : Below wr.heap.size wr (w2.alloc (Obj.cells #[.string ⟨#[110, 110, 101, 120, 116]⟩, .string ⟨#[101, 110, 101, 120, 116]⟩, .string ne, .string nn] 9)) := bl_al jb _
          refine (tileQ_cd (X := _) (gs := gs) (ts := ts ++ endQ gs j m j j) (c := (7, 0, 0)) (L := 26 + j + j) (hM.out.below jb2) (fun g e => Nat.lt_of_lt_of_le (hXb.out g e) jb2.size) (rd4T w2 _ _ _ _ _) (by decide +kernel) (in_tV (by simp <;> omega)) (sdQ_some knx.out) (sdQ_some kex.out) (sdQ_some keH.out) (sdQ_some knH.out) ⟨by decide, by decide, ze, zn⟩ hgl (by simp only [List.length_append, endQ_len, htl, List.length_cons, List.length_nil] <;> omega) (by omega)).mono ?_
          rintro e w6 ⟨rfl, hM6, hF6, hB6⟩
          have hF7 : Far MkTs wr w6 := (Far.of_below jb2).trans hF6
          have hB7 : Below bm wr w6 := (jb2.mono (show bm ≤ wr.heap.size by omega)).trans hB6
          have hM7 := Lib.hid hM6
          have bw7 := Lib.hid (hbw.out.trans hB7)
          have bR7 := Lib.hid (bR.out.far hF7 (by decide) hB7)
          have hdig7 := Lib.hid (rowIs_far hdig.out hF7 (by decide))
          clear hM6 hF6 hB6 jb jb2 hjs
          replace hM7 : Hid (MkrX w6 b bm (gs, ts ++ (endQ gs j m j j ++ [tCo gs j])) (fun q => (Value.slice A (2 + j + j) c).ownBlock = some q)) := Lib.hid (by
            have h := hM7.out
            rw [List.append_assoc] at h
            exact h)
          have hrow6 := ownsRow_far hrow.out hF7 (by decide)
          have hs6 := hB7.size
          have hal : Below w6.heap.size w6 (w6.alloc (Obj.cells #[.int .i64 ((j : Int) + 1), .int .i64 ((j : Int) + 1), .int .i64 ((26 + j + j : Nat) : Int)] 67)) := bl_al (bl_refl _) _
          have hrow7H := Lib.hid (ownsRow_below hrow6 hal)
          have halH := Lib.hid hal
          clear hrow6 hal
          obtain ⟨tk, htk⟩ : ∃ tk : Nat, 26 + j + j = tk := ⟨_, rfl⟩
          have htkH := Lib.hid htk
          rw [htk] at halH hrow7H ⊢
          clear htk
          go_wp2_with (at_builtin; refine wpList_append_own_at _ rfl _ _ 26 rfl (w.heap.size + 1) 67 iP (.agg #[.int .i64 0, .int .i64 0, .int .i64 0]) 3 24 Tryz.underlying26 hiP hP0 hP1 hP2 rfl (by decide) (.slice A (2 + j + j) c) ((2 + j + j)) (plCells (lstQ j j j)) rfl hrow7H.out ⟨w6.heap.size, 0, none⟩ 1 1 [.int .i64 ((j : Int) + 1), .int .i64 ((j : Int) + 1), .int .i64 (tk : Int)] rfl rfl (cell_three_newS _ _ _ _ _) (fun x hx => by simp at hx; rcases hx with rfl | rfl | rfl <;> rfl) (by unfold maxLen; omega) (by omega) (by simp; omega) ?_; intro v9 w9 hown9 hgrow9 hat9 hat9b; obtain ⟨A9, c9, rfl⟩ := ownsRow_form hown9; have hown9H := Lib.hid hown9; have hgrow9H := Lib.hid hgrow9; have hat9H := Lib.hid (show (Value.slice A9 ((2 + j + j) + 1) c9).ownBlock = (Value.slice A (2 + j + j) c).ownBlock ∨ (Value.slice A9 ((2 + j + j) + 1) c9).ownBlock = some (w6.alloc (Obj.cells #[.int .i64 ((j : Int) + 1), .int .i64 ((j : Int) + 1), .int .i64 (tk : Int)] 67)).heap.size by first | exact hat9 | exact hat9b); clear hown9 hgrow9 hat9 hat9b)
          have hjw := halH.out
          have hM9 : Hid (MkrX w9 b bm (gs, ts ++ (endQ gs j m j j ++ [tCo gs j])) (fun q => (Value.slice A9 ((2 + j + j) + 1) c9).ownBlock = some q)) := Lib.hid (by
            refine (((hM7.out.below hjw).clear_ (Y := fun q => (Value.slice A (2 + j + j) c).ownBlock = some q ∨ (w6.alloc (Obj.cells #[.int .i64 ((j : Int) + 1), .int .i64 ((j : Int) + 1), .int .i64 (tk : Int)] 67)).heap.size ≤ q) (fun g e => e)).grown hgrow9H.out (fun g e => ⟨.inl e, by have := hloH.out g e; omega⟩)).clear_ (fun g e => .inl ?_)
            rcases hat9H.out with h2 | h2
            · exact .inl (h2.symm.trans e)
            · rw [h2] at e
              injection e with e
              exact .inr (by omega))
          have hrow9 : Hid (w9.ownsRow (w.heap.size + 1) 67 3 (.slice A9 ((2 + j + j) + 1) c9) ((2 + j + j) + 1) (plCells ((lstQ j j j) ++ [⟨(j : Int) + 1, (j : Int) + 1, (tk : Int)⟩]))) := Lib.hid (by rw [plCells_snoc]; exact hown9H.out)
          have hdig9 := Lib.hid ((hdig7.out.of_block (hjw.block gd hdig7.out.lt)).of_block (hgrow9H.out.block gd (hdig7.out.of_block (hjw.block gd hdig7.out.lt)).lt (fun e => own_ne_row (hrow7H.out) (hdig7.out.of_block (hjw.block gd hdig7.out.lt)) (by decide) e.symm)))
          have bR9 := Lib.hid ((bR7.out.below hjw).grownS hgrow9H.out (fun e => by have := hloH.out _ e; omega))
          have bw9 : Hid (Below bm w w9) := Lib.hid ((bw7.out.trans (hjw.mono (by have := bw7.out.size; omega))).grown hgrow9H.out (by have := bw7.out.size; have := hjw.size; omega) (fun g e => by have := hloH.out g e; omega))
          clear hjw hM7 hdig7 bR7 bw7 halH hown9H hgrow9H hat9H hXb hM hrow hdig bR hbw hrow7H hF7 hB7 e0 lgd
          have hLL : (lstQ j j j ++ [sqC j]).length = 2 + j + j + 1 := by rw [List.length_append, lstQ_len]; rfl
          have hO1 : w9.ownsRow (w.heap.size + 1) 67 3 (.slice A9 ((2 + j + j) + 1) c9) ((2 + j + j) + 1) (plCells (lstQ j j j ++ [sqC j])) := by
            rw [show sqC j = ⟨(j : Int) + 1, (j : Int) + 1, (tk : Int)⟩ by unfold sqC; rw [← htkH.out, show 26 + 2 * j = 26 + j + j by omega]]
            exact hrow9.out
          rw [← hLL] at hO1
          obtain ⟨A5, c5, hv, hrd⟩ := rdP_of_row hO1
          injection hv with h1 h2 h3
          subst h1
          rw [hLL] at hrd
          have hrdH := Lib.hid hrd
          have hZ := lst_sort hd
          have hZH := Lib.hid hZ
          have hapH := Lib.hid (lst_apart hd)
          clear hO1 hrd hLL hZ
          refine (assemblyOf_any _ _ _ (lstQ j j j ++ [sqC j]) _ hrdH.out (by omega) (by omega) hapH.out).mono ?_
          rintro e w5 ⟨B, c5', rfl, hown5, hb5⟩
          rw [hZH.out, seedQ_len] at hown5 ⊢
          have hMz := Lib.hid ((hM9.out.below hb5).clear_ (Y := fun _ => False) (fun g e => e.elim))
          have bRz := Lib.hid (bR9.out.below hb5)
          have bwz := Lib.hid (bw9.out.trans (hb5.mono (show bm ≤ w9.heap.size by have := bw9.out.size; omega)))
          have hownH := Lib.hid (ownsRow_lo hown5 (show w.heap.size + 1 ≤ w9.heap.size by have := bR9.out.1.lt; omega))
          have z0 := bRz.out.1.cell 0 _ rfl
          have zf := bRz.out.1.froz 0
          have zl := bRz.out.1.lt
          clear hM9 hrow9 hdig9 bR9 bw9 hb5 hown5
          go_wp2
          refine bodyPost_ret (v := .agg #[.slice B (2 * j + 3) c5']) (by simp only [results, Tryz.results18]; go_simp) rfl ?_
          obtain ⟨hb1, Mr, fr, hrr⟩ := bRz.out
          refine ⟨B, c5', rfl, ?_, ?_, ?_⟩
          · have h9 := MkrX.setTS (i := 0) hMz.out hrr (by decide) (.slice B (2 * j + 3) c5')
            rw [List.append_assoc]
            exact h9
          · exact ownsRow_lo (ownsRow_setB hownH.out (p := ⟨w.heap.size, 0, none⟩) (show w.heap.size < w.heap.size + 1 by omega) _) (by omega)
          · exact bwz.out.setCell (p := ⟨w.heap.size, 0, none⟩) (show bm ≤ w.heap.size by omega) _
end Go.Proofs.YtpnahobgmemdjaaGreatDoor
/- Walks: the program's system of a square. -/

namespace Go.Proofs.YtpnahobgmemdjaaGreatDoor
open Go.RowKit Go.Shelf
attribute [local go_sem] BelowBy.cell BelowBy.cell_drew stillUpon givesUpon

/-- the glues when so many words are done -/
def gT (d : Nat) : Nat → List Cd
  | 0 => gQ2
  | 1 => gQ2 ++ cS 3 (d + 1)
  | _ => gQ3 d
theorem s3_V {k : Nat} (hk : k ≤ 6) : ∀ c ∈ gQ2 ++ cS 3 k, c ∈ gV := fun c h => (gQ3_V (d := 0) (j := 0) hk (by decide)) c (List.mem_append_left _ h)
theorem s3_no {k : Nat} : ((3, k, 0) : Cd) ∉ gQ2 ++ cS 3 k := by
  intro h
  rcases List.mem_append.1 h with h | h
  · have := mem_gQ2 h; simp only at this; omega
  · rw [mem_cS] at h; simp only at h; omega
theorem s4_no {n k : Nat} : ((4, k, 0) : Cd) ∉ gQ2 ++ cS 3 n ++ cS 4 k := by
  intro h
  rcases List.mem_append.1 h with h | h
  · rcases List.mem_append.1 h with h | h
    · have := mem_gQ2 h; simp only at this; omega
    · rw [mem_cS] at h; simp only at h; omega
  · rw [mem_cS] at h; simp only at h; omega
theorem s3_len (k : Nat) : (gQ2 ++ cS 3 k).length = 20 + k := by simp only [List.length_append, gQ2_len, cS_len]
theorem squareR_eq {s : Nat} (h1 : 4 ≤ s) (h2 : s ≤ 22) : squareR (s : Int) = (squareS (dgP s) (2 ^ dgP s - stP s), 0) := by
  unfold squareR
  rw [if_pos (inB_true.2 (by omega))]
  rfl
theorem tQ2_len : tQ2.length = 22 := by simp [tQ2, cntT_len]
set_option maxRecDepth 100000 in
set_option maxHeartbeats 8000000 in
theorem SquareSystem_any (side : Int) (w : World) (hT : Tab w) :
    Calls Tryz.prog 5 #[.int .i64 side] w (SyRes w (squareR side)) := by
  have hTH := Lib.hid hT
  clear hT
  obtain ⟨v, hv⟩ : ∃ v, inB side 4 22 = v := ⟨_, rfl⟩
  cases v
  · have hr := Lib.hid (show noSy 2 = squareR side by unfold squareR; rw [hv]; rfl)
    go_enter Tryz.func5, Tryz.ntmps5
    go_wp2_with (go_at_call 11; refine (sideOk_any side _).mono ?_; rw [hv]; rintro e _ ⟨rfl, rfl⟩)
    refine bodyPost_ret (v := .tuple #[.agg #[.slice none 0 0, .slice none 0 0, .slice none 0 0, .int .i64 0], .int .i64 2]) (by simp only [results, Tryz.results5]; go_simp) rfl ?_
    exact SyRes.none_ hr.out (bl_al (bl_refl w) _)
  · have hb := inB_true.1 hv
    obtain ⟨s, hs⟩ : ∃ s : Nat, side = (s : Int) := ⟨side.toNat, by omega⟩
    subst hs
    obtain ⟨p1, p2, p3, p4, p5, p6⟩ := parts_ok (s := s) (by omega) (by omega)
    have hr := Lib.hid (squareR_eq (s := s) (by omega) (by omega))
    obtain ⟨d, hd⟩ : ∃ d, dgP s = d := ⟨_, rfl⟩
    obtain ⟨st, hst⟩ : ∃ st, stP s = st := ⟨_, rfl⟩
    have hdH := Lib.hid hd
    have hstH := Lib.hid hst
    rw [hd] at p1 p2 p5 p6 hr
    rw [hst] at p4 p5 hr
    obtain ⟨n1, hn1⟩ : ∃ n1 : Nat, d + 1 = n1 := ⟨_, rfl⟩
    have hn1H := Lib.hid hn1
    have hw1 : IntKind.i64.wrap ((d : Int) + 1) = (n1 : Int) := by rw [wrapT (by omega) (by omega)]; omega
    have hn1b : n1 ≤ 6 := by omega
    have hgl : (glQ (gQ3 d)).length ≤ 1000 := by rw [glQ_len]; unfold gQ3; rw [gQ3_len]; omega
    have kfill := Lib.hid (show gqn (1, 0, 0) = ⟨#[102, 105, 108, 108]⟩ from rfl)
    have kin := Lib.hid (show gqn (2, 0, 0) = ⟨#[105, 110]⟩ from rfl)
    have p5H := Lib.hid p5
    clear p3 p5 hd hst hn1
    go_enter Tryz.func5, Tryz.ntmps5
    go_wp2_with (go_at_call 11; refine (sideOk_any (s : Int) _).mono ?_; rw [hv]; rintro e _ ⟨rfl, rfl⟩)
    refine (squareParts_any s _ (by omega) (by omega)).mono ?_
    rw [hdH.out, hstH.out]
    rintro e _ ⟨rfl, rfl⟩
    go_wp2_with fail
    obtain ⟨w1, hw1e⟩ : ∃ x : World, x = w.alloc (Obj.cells #[.slice none 0 0, .slice none 0 0, .slice none 0 0, .int .i64 0] 30) := ⟨_, rfl⟩
    have hal : Below w.heap.size w w1 := by rw [hw1e]; exact bl_al (bl_refl _) _
    have hs1 : w1.heap.size = w.heap.size + 1 := by rw [hw1e]; simp
    have bS0 := BxT.made w [.slice none 0 0, .slice none 0 0, .slice none 0 0, .int .i64 0] 30
    simp only [List.toArray] at bS0
    rw [← hw1e] at bS0 ⊢
    have bSH := Lib.hid bS0
    have halH := Lib.hid hal
    clear hw1e bS0 hal
    refine (newMaker_any _).mono ?_
    rintro e w2 ⟨b, bm, rfl, hM2, hbm, hb2⟩
    have hltm := hM2.lt
    have hbmw : w.heap.size + 1 ≤ bm := by omega
    have hMH := Lib.hid hM2
    have hb2H := Lib.hid hb2
    clear hM2 hb2
    go_wp2_with fail
    refine (glueQ_cd (X := fun _ => False) (cs := []) (ts := []) (c := (1, 0, 0)) hMH.out (fun g e => e.elim) kfill.out (by decide) (by simp) (in_gV (by simp)) (by simp) (by decide)).mono ?_
    rintro e w3 ⟨rfl, hM3, hF3, hB3⟩
    have hM3H := Lib.hid hM3
    have hB3H := Lib.hid hB3
    clear hM3 hF3 hB3 hMH
    go_wp2_with fail
    refine (glueQ_cd (X := fun _ => False) (cs := [(1, 0, 0)]) (ts := []) (c := (2, 0, 0)) hM3H.out (fun g e => e.elim) kin.out (by decide) (fun d hd => in_gV (by simp at hd; subst hd; simp)) (in_gV (by simp)) (by simp) (by decide)).mono ?_
    rintro e w4 ⟨rfl, hM4, hF4, hB4⟩
    have hM4H := Lib.hid hM4
    have hB4H := Lib.hid (hB3H.out.trans hB4)
    clear hM4 hF4 hB4 hM3H hB3H
    go_wp2_with fail
    have hT2w2 := Lib.hid (show TabB bm w2 from fun w' h => hTH.out.below (halH.out.trans ((hb2H.out.mono (by omega)).trans (h.mono (by omega)))))
    refine (counterTiles_any b bm 0 c0Q [] ⟨#[110]⟩ false _ (by decide) rfl rfl (fun d hd => gQ2_V d (List.mem_append_left _ (List.mem_append_left _ hd))) (by decide) (by decide) (by decide) hM4H.out (hT2w2.out.below hB4H.out)).mono ?_
    rintro e w5 ⟨rfl, hM5, hF5, hB5⟩
    have hM5H := Lib.hid hM5
    have hB5H := Lib.hid (hB4H.out.trans hB5)
    clear hM5 hF5 hB5 hM4H hB4H
    go_wp2_with fail
    refine (counterTiles_any b bm 1 gQ1 (cntT (glQ gQ1) 0 11) ⟨#[101]⟩ true _ (by decide) rfl rfl (fun d hd => gQ2_V d (List.mem_append_left _ hd)) (fun d hd => by have := mem_gQ1 hd; omega) (by decide) (by rw [cntT_len]; decide) hM5H.out (hT2w2.out.below hB5H.out)).mono ?_
    rintro e w6 ⟨rfl, hM6, hF6, hB6⟩
    have hM6H : Hid (Mkr w6 b bm (glQ gQ2, tQ2)) := Lib.hid hM6
    have hB6H := Lib.hid (hB5H.out.trans hB6)
    clear hM6 hF6 hB6 hM5H hB5H
    have jb : Below w6.heap.size w6 (w6.alloc (Obj.cells #[.string ⟨#[115, 110]⟩, .string ⟨#[115, 101]⟩] 9)) := bl_al (bl_refl _) _
    have hltm6 := hM6H.out.lt
    have hMw := Lib.hid (hM6H.out.below jb)
    have hBw := Lib.hid (hB6H.out.trans (jb.mono (show bm ≤ w6.heap.size by omega)))
    have bN0 := Lib.hid (BxT.made w6 [.string ⟨#[115, 110]⟩, .string ⟨#[115, 101]⟩] 9)
    obtain ⟨N, hN⟩ : ∃ N, w6.heap.size = N := ⟨_, rfl⟩
    rw [hN] at bN0
    clear jb
    go_wp2_with fail
    go_loopg [31] 2 (fun g i wr => ∃ (t : Nat), t + g = 2 ∧ i = .int .i64 (t : Int) ∧ Hid (Mkr wr b bm (glQ (gT d t), tQ2)) ∧ Hid (Below bm w2 wr) ∧ Hid (BxT wr N 9 [.string ⟨#[115, 110]⟩, .string ⟨#[115, 101]⟩]))
    case atStart => exact ⟨0, by omega, rfl, hMw, hBw, bN0⟩
    case round =>
      clear hMw hBw bN0 hM6H hB6H hltm6
      obtain ⟨t, ht, rfl, hM, hbw, bN⟩ := hrel
      by_cases htn : t < 2
      · rcases (show t = 0 ∨ t = 1 by omega) with rfl | rfl
        · have cN := bN.out.1.cell 0 _ rfl
          have lN := bN.out.1.lt
          go_wp2_with fail
          go_loopg [37] n1 (fun g i wr => ∃ (k : Nat), k + g = n1 ∧ i = .int .i64 (k : Int) ∧ Hid (Mkr wr b bm (glQ (gQ2 ++ cS 3 k), tQ2)) ∧ Hid (Below bm w2 wr) ∧ Hid (BxT wr N 9 [.string ⟨#[115, 110]⟩, .string ⟨#[115, 101]⟩]))
          case atStart => exact ⟨0, by omega, rfl, (by simp only [cS, List.range_zero, List.map_nil, List.append_nil]; exact hM), hbw, bN⟩
          case round =>
            clear hM hbw bN cN lN
            obtain ⟨k, hk, rfl, hM, hbw, bN⟩ := hrel
            have hTr := Lib.hid (hT2w2.out.below hbw.out)
            have hltr := hM.out.lt
            by_cases hkn : k < n1
            · have hkI : (k : Int) < (n1 : Int) := by omega
              obtain ⟨nm, hnm⟩ : ∃ s, (⟨#[115, 110]⟩ : ByteArray) ++ decN k = s := ⟨_, rfl⟩
              have hgnH := Lib.hid (show gqn (3, k, 0) = nm by rw [← hnm]; rfl)
              have hnmH := Lib.hid hnm
              clear hnm
              go_wp2_with fail
              refine (numbered_n (u := k) _ (by decide) (by omega) hTr.out.here hnmH.out).mono ?_
              rintro e w5 ⟨rfl, hb5⟩
              have hb5H := Lib.hid hb5
              clear hb5
              go_wp2_with fail
              refine (glueQ_cd (X := fun _ => False) (c := (3, k, 0)) (s := 2) (hM.out.below hb5H.out) (fun g e => e.elim) hgnH.out (by simp [gsq]) (s3_V (by omega)) (in_gV (by simp <;> omega)) s3_no (by rw [s3_len]; omega)).mono ?_
              rintro e w6 ⟨rfl, hM6, hF6, hB6⟩
              have hM7 := Lib.hid hM6
              have bw7 := Lib.hid ((hbw.out.trans (hb5H.out.mono (show bm ≤ wr.heap.size by omega))).trans hB6)
              have bN7 := Lib.hid ((bN.out.below hb5H.out).far hF6 (by decide) hB6)
              clear hM6 hF6 hB6 hb5H hM hbw bN
              go_wp2
              go_roundg (n1 - (k + 1))
              case measure => omega
              case rel => exact ⟨k + 1, by omega, by go_num, (by rw [show cS 3 (k + 1) = cS 3 k ++ [(3, k, 0)] from cS_succ _ _, ← List.append_assoc]; exact hM7), bw7, bN7⟩
            · obtain rfl : k = n1 := by omega
              go_wp2
              go_roundg (2 - (0 + 1))
              case measure => omega
              case rel => exact ⟨0 + 1, by omega, by go_num, Lib.hid (by have h := hM.out; rw [← hn1H.out] at h; exact h), hbw, bN⟩
        · have cN := bN.out.1.cell 1 _ rfl
          have lN := bN.out.1.lt
          go_wp2_with fail
          go_loopg [37] n1 (fun g i wr => ∃ (k : Nat), k + g = n1 ∧ i = .int .i64 (k : Int) ∧ Hid (Mkr wr b bm (glQ (gQ2 ++ cS 3 (d + 1) ++ cS 4 k), tQ2)) ∧ Hid (Below bm w2 wr) ∧ Hid (BxT wr N 9 [.string ⟨#[115, 110]⟩, .string ⟨#[115, 101]⟩]))
          case atStart => exact ⟨0, by omega, rfl, (by simp only [cS, List.range_zero, List.map_nil, List.append_nil]; exact hM), hbw, bN⟩
          case round =>
            clear hM hbw bN cN lN
            obtain ⟨k, hk, rfl, hM, hbw, bN⟩ := hrel
            have hTr := Lib.hid (hT2w2.out.below hbw.out)
            have hltr := hM.out.lt
            by_cases hkn : k < n1
            · have hkI : (k : Int) < (n1 : Int) := by omega
              obtain ⟨nm, hnm⟩ : ∃ s, (⟨#[115, 101]⟩ : ByteArray) ++ decN k = s := ⟨_, rfl⟩
              have hgnH := Lib.hid (show gqn (4, k, 0) = nm by rw [← hnm]; rfl)
              have hnmH := Lib.hid hnm
              clear hnm
              go_wp2_with fail
              refine (numbered_n (u := k) _ (by decide) (by omega) hTr.out.here hnmH.out).mono ?_
              rintro e w5 ⟨rfl, hb5⟩
              have hb5H := Lib.hid hb5
              clear hb5
              go_wp2_with fail
              refine (glueQ_cd (X := fun _ => False) (c := (4, k, 0)) (s := 2) (hM.out.below hb5H.out) (fun g e => e.elim) hgnH.out (by simp [gsq]) (gQ3_V (d := 0) (by omega) (by omega)) (in_gV (by simp <;> omega)) s4_no (by rw [gQ3_len]; omega)).mono ?_
              rintro e w6 ⟨rfl, hM6, hF6, hB6⟩
              have hM7 := Lib.hid hM6
              have bw7 := Lib.hid ((hbw.out.trans (hb5H.out.mono (show bm ≤ wr.heap.size by omega))).trans hB6)
              have bN7 := Lib.hid ((bN.out.below hb5H.out).far hF6 (by decide) hB6)
              clear hM6 hF6 hB6 hb5H hM hbw bN
              go_wp2
              go_roundg (n1 - (k + 1))
              case measure => omega
              case rel => exact ⟨k + 1, by omega, by go_num, (by rw [show cS 4 (k + 1) = cS 4 k ++ [(4, k, 0)] from cS_succ _ _, ← List.append_assoc]; exact hM7), bw7, bN7⟩
            · obtain rfl : k = n1 := by omega
              go_wp2
              go_roundg (2 - (1 + 1))
              case measure => omega
              case rel => exact ⟨1 + 1, by omega, by go_num, Lib.hid (by have h := hM.out; rw [← hn1H.out] at h; exact h), hbw, bN⟩
      · obtain rfl : t = 2 := by omega
        have hltr := hM.out.lt
        go_wp2_with fail
        have jb : Below wr.heap.size wr (wr.alloc (Obj.cells #[.string ⟨#[102, 105, 108, 108]⟩, .string ⟨#[102, 105, 108, 108]⟩, .string ⟨#[102, 105, 108, 108]⟩, .string ⟨#[102, 105, 108, 108]⟩] 9)) := bl_al (bl_refl _) _
        refine (tileQ_cd (X := fun _ => False) (gs := glQ (gQ3 d)) (ts := tQ2) (c := (1, 0, 0)) (L := 22) (hM.out.below jb) (fun g e => e.elim) (rd4T wr _ _ _ _ _) rfl (in_tV (by simp)) (sdQ_some kfill.out) (sdQ_some kfill.out) (sdQ_some kfill.out) (sdQ_some kfill.out) ⟨by decide, by decide, by decide, by decide⟩ hgl (by first | exact tQ2_len | simp only [List.length_append, tQ2_len, List.length_cons, List.length_nil]) (by omega)).mono ?_
        rintro e w6 ⟨rfl, hM6, hF6, hB6⟩
        have hM7 := Lib.hid hM6
        have bw7 := Lib.hid ((hbw.out.trans (jb.mono (show bm ≤ wr.heap.size by omega))).trans hB6)
        clear hM6 hF6 hB6 jb hM hbw
        obtain ⟨wr, hwr⟩ : ∃ x : World, x = w6 := ⟨_, rfl⟩
        subst hwr
        have hM := hM7
        have hbw := bw7
        have hltr := hM.out.lt
        clear hM7 bw7
        go_wp2_with fail
        have jb : Below wr.heap.size wr (wr.alloc (Obj.cells #[.string ⟨#[105, 110]⟩, .string ⟨#[105, 110]⟩, .string ⟨#[105, 110]⟩, .string ⟨#[105, 110]⟩] 9)) := bl_al (bl_refl _) _
        refine (tileQ_cd (X := fun _ => False) (gs := glQ (gQ3 d)) (ts := tQ2 ++ [tOut (glQ (gQ3 d))]) (c := (2, 0, 0)) (L := 23) (hM.out.below jb) (fun g e => e.elim) (rd4T wr _ _ _ _ _) rfl (in_tV (by simp)) (sdQ_some kin.out) (sdQ_some kin.out) (sdQ_some kin.out) (sdQ_some kin.out) ⟨by decide, by decide, by decide, by decide⟩ hgl (by first | exact tQ2_len | simp only [List.length_append, tQ2_len, List.length_cons, List.length_nil]) (by omega)).mono ?_
        rintro e w6 ⟨rfl, hM6, hF6, hB6⟩
        have hM7 := Lib.hid hM6
        have bw7 := Lib.hid ((hbw.out.trans (jb.mono (show bm ≤ wr.heap.size by omega))).trans hB6)
        clear hM6 hF6 hB6 jb hM hbw
        go_wp2_with fail
        have hlt6 := hM7.out.lt
        refine (squareSeed_any b bm d st _ hM7.out (hT2w2.out.below bw7.out) ⟨p1, p2⟩ ⟨p4, p5H.out⟩).mono ?_
        rintro e w9 ⟨C, cc, rfl, hM9, hrow9, hB9⟩
        obtain ⟨n9, A1, c1, B2, c2, us, hA9⟩ := hM9
        have e0 := hA9.bx.cell 0 _ rfl
        have e1 := hA9.bx.cell 1 _ rfl
        have e2 := hA9.bx.cell 2 _ rfl
        have le := hA9.bx.lt
        have hbw9 := Lib.hid (bw7.out.trans hB9)
        have bS9 := Lib.hid (((bSH.out.below hb2H.out)))
        have hlS : w.heap.size < w1.heap.size := by omega
        have hb29 := hb2H.out.size
        have h9s := hbw9.out.size
        have g0 := (hbw9.out.cell (p := ⟨w.heap.size, 0, none⟩) (show w.heap.size < bm by omega)).trans (bS9.out.1.cell 0 _ rfl)
        have g1 := (hbw9.out.cell (p := ⟨w.heap.size, 1, none⟩) (show w.heap.size < bm by omega)).trans (bS9.out.1.cell 1 _ rfl)
        have g2 := (hbw9.out.cell (p := ⟨w.heap.size, 2, none⟩) (show w.heap.size < bm by omega)).trans (bS9.out.1.cell 2 _ rfl)
        have g3 := (hbw9.out.cell (p := ⟨w.heap.size, 3, none⟩) (show w.heap.size < bm by omega)).trans (bS9.out.1.cell 3 _ rfl)
        have gf := fun i => (hbw9.out.frozen (p := ⟨w.heap.size, i, none⟩) (show w.heap.size < bm by omega)).trans (bS9.out.1.froz i)
        have lg : w.heap.size < w9.heap.size := by omega
        have hww9 := Lib.hid (halH.out.trans ((hb2H.out.mono (show w.heap.size ≤ w1.heap.size by omega)).trans (hbw9.out.mono (show w.heap.size ≤ bm by omega))))
        obtain ⟨gs, hgs⟩ : ∃ gs, glQ (gQ3 d) = gs := ⟨_, rfl⟩
        rw [hgs] at hA9 e0 e1
        obtain ⟨tt, htt⟩ : ∃ tt, tQ3 d ++ endQ gs d (2 ^ d - st) d d ++ [tCo gs d] = tt := ⟨_, rfl⟩
        rw [htt] at hA9 e1
        obtain ⟨ng, hng⟩ : ∃ ng, gs.length = ng := ⟨_, rfl⟩
        obtain ⟨nt, hnt⟩ : ∃ nt, tt.length = nt := ⟨_, rfl⟩
        obtain ⟨nx, hnx⟩ : ∃ nx, 2 * d + 3 = nx := ⟨_, rfl⟩
        simp only at e0 e1
        rw [hng] at e0
        rw [hnt] at e1
        have hS := Lib.hid (show squareS d (2 ^ d - st) = ⟨gs, tt, seedQ d, 2⟩ by rw [squareS, hgs, htt])
        have hngH := Lib.hid hng
        have hntH := Lib.hid hnt
        have hnxH := Lib.hid hnx
        rw [hnx] at hrow9
        rw [hnx]
        have hA9H := Lib.hid hA9
        have hrow9H := Lib.hid hrow9
        clear hA9 hrow9 hB9 bS9 hgs htt hng hnt hnx hM7 bw7 hgl
        go_wp2_with fail
        have jb : Below w9.heap.size w9 (w9.alloc (Obj.cells #[.slice C nx cc] 28)).drew := bl_dr (bl_al (bl_refl _) _)
        obtain ⟨wA, hwA⟩ : ∃ wA, wA = w9.alloc (Obj.cells #[.slice C nx cc] 28) := ⟨_, rfl⟩
        have k0 : wA.cell? ⟨w9.heap.size, 0, none⟩ = some (.slice C nx cc) := by rw [hwA]; go_simp
        have lk : w9.heap.size < wA.heap.size := by rw [hwA]; simp
        have jA : Below w9.heap.size w9 wA := by rw [hwA]; exact bl_al (bl_refl _) _
        rw [← hwA] at jb ⊢
        have e0 := (jA.cell (p := ⟨b, 0, none⟩) le).trans e0
        have e1 := (jA.cell (p := ⟨b, 1, none⟩) le).trans e1
        have le := Nat.lt_of_lt_of_le le jA.size
        have g0 := (jA.cell (p := ⟨w.heap.size, 0, none⟩) lg).trans g0
        have g1 := (jA.cell (p := ⟨w.heap.size, 1, none⟩) lg).trans g1
        have g2 := (jA.cell (p := ⟨w.heap.size, 2, none⟩) lg).trans g2
        have g3 := (jA.cell (p := ⟨w.heap.size, 3, none⟩) lg).trans g3
        have gf := fun i => (jA.frozen (p := ⟨w.heap.size, i, none⟩) lg).trans (gf i)
        have lg := Nat.lt_of_lt_of_le lg jA.size
        clear hwA jA
        refine wp_region_ord [(0, .q), (1, .q), (2, .q), (3, .q), (4, .q), (5, .q), (6, .b), (7, .q)] (by kernel_rfl) (by kernel_rfl) ?_
        simp only [pick, List.filterMap_cons, List.filterMap_nil, List.getElem?_toArray, List.getElem?_cons_zero, List.getElem?_cons_succ, Option.map_some]
        repeat (first | ((with_reducible refine wpD_p (fun K hK => ?_)); go_simp; refine hK _ ?_; clear hK K) | ((with_reducible refine wpD_q (fun K hK => ?_)); go_simp; (first | refine hK _ ?_ | (go_bits; refine hK _ ?_) | (go_bits; go_simp; refine hK _ ?_)); clear hK K))
        with_reducible refine wpD_b (fun K hK => ?_)
        go_simp
        refine hK _ _ ?_
        clear hK K
        repeat (first | ((with_reducible refine wpD_p (fun K hK => ?_)); go_simp; refine hK _ ?_; clear hK K) | ((with_reducible refine wpD_q (fun K hK => ?_)); go_simp; (first | refine hK _ ?_ | (go_bits; refine hK _ ?_) | (go_bits; go_simp; refine hK _ ?_)); clear hK K))
        with_reducible refine wpD_nil ?_
        go_wp2
        refine bodyPost_ret (v := .tuple #[.agg #[.slice A1 ng c1, .slice B2 nt c2, .slice C nx cc, .int .i64 2], .int .i64 0]) (by simp only [results, Tryz.results5]; go_simp) rfl ?_
        rw [hr.out, hS.out]
        have hn := hngH.out
        subst hn
        have hn := hntH.out
        subst hn
        have hxl : (seedQ d).length = nx := by rw [seedQ_len]; exact hnxH.out
        subst hxl
        have hsz9 := jb.size
        refine SyRes.boxed (w2 := wA.drew) (lo := w.heap.size + 1) (r := (⟨gs, tt, seedQ d, 2⟩, 0)) (OwnSy.of (base := w.heap.size + 1) (Nat.le_refl _) (by simp at hsz9 ⊢; omega) (ownsRow_lo (ownsRow_below hA9H.out.gl jb) (by omega)) ((hA9H.out.ti.below jb).rebase (by omega)) (ownsRow_lo (ownsRow_below hrow9H.out jb) (by omega)) ?_) (by omega) (hww9.out.trans (jb.mono (by omega)))
        have := squareS_four d (2 ^ d - st)
        rw [hS.out] at this
        exact this
end Go.Proofs.YtpnahobgmemdjaaGreatDoor
