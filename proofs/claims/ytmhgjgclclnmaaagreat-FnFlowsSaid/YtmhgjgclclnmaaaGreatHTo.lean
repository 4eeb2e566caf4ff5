/- Walks: the harness' copies. -/
import Derived.Test.YtmhgjgclclnmaaaGreatW1
import Derived.Test.YtmhgjgclclnmaaaGreatBase2
namespace Go.Proofs.YtmhgjgclclnmaaaGreat
open Go.RowKit
set_option linter.unusedSimpArgs false
set_option linter.unusedVariables false
attribute [local go_sem] BelowBy.cell BelowBy.cell_drew stillUpon givesUpon

theorem toGlue_any (s : ByteArray) (t : Int) (w : World) :
    Calls Tryz.prog 161 #[.agg #[.string s, .int .i64 t]] w fun e w' => e = .returned (.agg #[.string s, .int .i64 t]) ∧ Below w.heap.size w w' := by
  go_enter Tryz.func161, Tryz.ntmps161
  go_wp2
  refine bodyPost_ret (v := .agg #[.string s, .int .i64 t]) (by simp only [results, Tryz.results161]; go_simp) rfl ?_
  refine ⟨rfl, ?_⟩
  exact bel_
theorem toPoint_any (x y : Int) (w : World) :
    Calls Tryz.prog 163 #[.agg #[.int .i64 x, .int .i64 y]] w fun e w' => e = .returned (.agg #[.int .i64 x, .int .i64 y]) ∧ Below w.heap.size w w' := by
  go_enter Tryz.func163, Tryz.ntmps163
  go_wp2
  refine bodyPost_ret (v := .agg #[.int .i64 x, .int .i64 y]) (by simp only [results, Tryz.results163]; go_simp) rfl ?_
  refine ⟨rfl, ?_⟩
  exact bel_

theorem toPlaced_any (x y t : Int) (w : World) :
    Calls Tryz.prog 117 #[.agg #[.int .i64 x, .int .i64 y, .int .i64 t]] w fun e w' => e = .returned (.agg #[.int .i64 x, .int .i64 y, .int .i64 t]) ∧ Below w.heap.size w w' := by
  
  go_enter Tryz.func117, Tryz.ntmps117
  go_wp2_with (go_at_call 163; refine (toPoint_any _ _ _).mono ?_; rintro e w1 ⟨rfl, hb1⟩; obtain ⟨chb1, fhb1, shb1, thb1⟩ := bcell hb1; (try have bhb10 := shb1 (w.heap.size) (by go_simp)); (try have bhb11 := shb1 (w.heap.size + 1) (by go_simp)); (try have bhb12 := shb1 (w.heap.size + 1 + 1) (by go_simp)))
  refine bodyPost_ret (v := .agg #[.int .i64 x, .int .i64 y, .int .i64 t]) (by simp only [results, Tryz.results117]; go_simp) rfl ?_
  refine ⟨rfl, ?_⟩
  exact bel_
theorem infoI : (Tryz.prog.info? 2).map (fun i => (i.zero, i.size, i.bytes)) = some (some (.int .i64 0), 1, 8) := by kernel_rfl
theorem infoGl : (Tryz.prog.info? 143).map (fun i => (i.zero, i.size, i.bytes)) = some (some (.agg #[.string ByteArray.empty, .int .i64 0]), 2, 24) := by kernel_rfl
theorem infoTi : (Tryz.prog.info? 145).map (fun i => (i.zero, i.size, i.bytes)) = some (some (.agg #[.string ByteArray.empty, .slice none 0 0]), 2, 40) := by kernel_rfl
theorem infoPl : (Tryz.prog.info? 149).map (fun i => (i.zero, i.size, i.bytes)) = some (some (.agg #[.int .i64 0, .int .i64 0, .int .i64 0]), 3, 24) := by kernel_rfl

set_option maxHeartbeats 2000000 in
theorem toGlueS_any (A : Option Addr) (n c : Nat) (xs : List Gl) (w : World) (h : RdSl 2 RGl w A n xs) (hn : n ≤ 1073741824) :
    Calls Tryz.prog 115 #[.slice A n c] w (ResSl 143 2 RGl w n xs) := by
  have hmk := fun W => run_makeN (P := Tryz.prog) 24 143 _ 2 24 Tryz.underlying24 infoGl n (by omega) (by omega) W
  go_enter Tryz.func115, Tryz.ntmps115
  go_wp2
  go_loopg [4] n (fun g i wr => ∃ (k : Nat) (f : Nat → Value), k + g = n ∧ i = .int .i64 k ∧ Below w.heap.size w wr ∧ w.heap.size < wr.heap.size ∧ wr.rowIs w.heap.size 143 (n * 2) f ∧ (∀ j e, j < k → xs[j]? = some e → f (j * 2) = .string e.name ∧ f (j * 2 + 1) = .int .i64 e.s))
  case atStart => exact ⟨0, _, by omega, rfl, bl_al (bl_refl _) _, by simp, rowIs_make _ _ _ _, fun j e hj => by omega⟩
  case round =>
    obtain ⟨k, f, hk, rfl, hbw, hsz, hrow, hf⟩ := hrel
    have r1 := h.below RGl.stable hbw
    by_cases hlt : k < n
    · obtain ⟨b, o, rfl, hb, hc⟩ := r1.ptr (by omega)
      obtain ⟨e, he⟩ := h.get hlt
      have HE := Lib.hid he
      have HF := Lib.hid hf
      obtain ⟨c1, c1b⟩ := hc k e he
      clear hc he r1 hf
      go_wp2_with (go_at_call 161; refine (toGlue_any _ _ _).mono ?_; rintro e' w1 ⟨rfl, hb1⟩; have hrow1 := hrow.of_block (hb1.block _ hrow.lt); have hc0 := hrow1.cell (i := k * 2) (by omega); have hf0 := hrow1.frozen (k * 2); have hc1 := hrow1.cell (i := k * 2 + 1) (by omega); have hf1 := hrow1.frozen (k * 2 + 1))
      go_roundg (n - (k + 1))
      case measure => omega
      case rel => exact ⟨k + 1, _, by omega, by go_num, (by exact bel_), (by have := hb1.size; simp; omega), (hrow1.set (k * 2) _).set (k * 2 + 1) _, fun j e' hj he' => by
        have HF := HF.out
        rcases Nat.lt_succ_iff_lt_or_eq.1 hj with hj | rfl
        · have h3 := HF j e' hj he'
          rw [if_neg (by omega), if_neg (by omega), if_neg (by omega), if_neg (by omega)]; exact h3
        · obtain rfl := Option.some.inj (HE.out.symm.trans he')
          rw [if_neg (by omega), if_pos rfl, if_pos rfl]; exact ⟨rfl, rfl⟩⟩
    · obtain rfl : k = n := by omega
      go_wp2
      go_ret
      refine ⟨_, rfl, ⟨h.len, _, f, rfl, Nat.le_refl _, hrow, fun j e he => ?_⟩, hbw⟩
      have hj : j < k := by rw [← h.len]; exact (List.getElem?_eq_some_iff.1 he).1
      have h3 := hf j e hj he
      exact ⟨(hrow.cell (by omega)).trans (by rw [h3.1]), (hrow.cell (by omega)).trans (by rw [h3.2])⟩

set_option maxHeartbeats 2000000 in
theorem toPlacedS_any (A : Option Addr) (n c : Nat) (xs : List Pl) (w : World) (h : RdSl 3 RPl w A n xs) (hn : n ≤ 1073741824) :
    Calls Tryz.prog 60 #[.slice A n c] w (ResSl 149 3 RPl w n xs) := by
  have hmk := fun W => run_makeN (P := Tryz.prog) 28 149 _ 3 24 Tryz.underlying28 infoPl n (by omega) (by omega) W
  go_enter Tryz.func60, Tryz.ntmps60
  go_wp2
  go_loopg [4] n (fun g i wr => ∃ (k : Nat) (f : Nat → Value), k + g = n ∧ i = .int .i64 k ∧ Below w.heap.size w wr ∧ w.heap.size < wr.heap.size ∧ wr.rowIs w.heap.size 149 (n * 3) f ∧ (∀ j e, j < k → xs[j]? = some e → f (j * 3) = .int .i64 e.x ∧ f (j * 3 + 1) = .int .i64 e.y ∧ f (j * 3 + 2) = .int .i64 e.t))
  case atStart => exact ⟨0, _, by omega, rfl, bl_al (bl_refl _) _, by simp, rowIs_make _ _ _ _, fun j e hj => by omega⟩
  case round =>
    obtain ⟨k, f, hk, rfl, hbw, hsz, hrow, hf⟩ := hrel
    have r1 := h.below RPl.stable hbw
    by_cases hlt : k < n
    · obtain ⟨b, o, rfl, hb, hc⟩ := r1.ptr (by omega)
      obtain ⟨e, he⟩ := h.get hlt
      have HE := Lib.hid he
      have HF := Lib.hid hf
      obtain ⟨c1, c1b, c1c⟩ := hc k e he
      clear hc he r1 hf
      go_wp2_with (go_at_call 117; refine (toPlaced_any _ _ _ _).mono ?_; rintro e' w1 ⟨rfl, hb1⟩; have hrow1 := hrow.of_block (hb1.block _ hrow.lt); have hc0 := hrow1.cell (i := k * 3) (by omega); have hf0 := hrow1.frozen (k * 3); have hc1 := hrow1.cell (i := k * 3 + 1) (by omega); have hf1 := hrow1.frozen (k * 3 + 1); have hc2 := hrow1.cell (i := k * 3 + 2) (by omega); have hf2 := hrow1.frozen (k * 3 + 2))
      go_roundg (n - (k + 1))
      case measure => omega
      case rel => exact ⟨k + 1, _, by omega, by go_num, (by exact bel_), (by have := hb1.size; simp; omega), ((hrow1.set (k * 3) _).set (k * 3 + 1) _).set (k * 3 + 2) _, fun j e' hj he' => by
        have HF := HF.out
        rcases Nat.lt_succ_iff_lt_or_eq.1 hj with hj | rfl
        · have h3 := HF j e' hj he'
          rw [if_neg (by omega), if_neg (by omega), if_neg (by omega), if_neg (by omega), if_neg (by omega), if_neg (by omega), if_neg (by omega), if_neg (by omega), if_neg (by omega)]; exact h3
        · obtain rfl := Option.some.inj (HE.out.symm.trans he')
          rw [if_neg (by omega), if_neg (by omega), if_pos rfl, if_neg (by omega), if_pos rfl, if_pos rfl]; exact ⟨rfl, rfl, rfl⟩⟩
    · obtain rfl : k = n := by omega
      go_wp2
      go_ret
      refine ⟨_, rfl, ⟨h.len, _, f, rfl, Nat.le_refl _, hrow, fun j e he => ?_⟩, hbw⟩
      have hj : j < k := by rw [← h.len]; exact (List.getElem?_eq_some_iff.1 he).1
      have h3 := hf j e hj he
      exact ⟨(hrow.cell (by omega)).trans (by rw [h3.1]), (hrow.cell (by omega)).trans (by rw [h3.2.1]), (hrow.cell (by omega)).trans (by rw [h3.2.2])⟩

set_option maxHeartbeats 1000000 in
theorem toInt64S_any (A : Option Addr) (n c : Nat) (xs : List Int) (w : World) (h : RdSl 1 RInt w A n xs) (hn : n ≤ 1073741824) :
    Calls Tryz.prog 197 #[.slice A n c] w (ResSl 2 1 RInt w n xs) := by
  have hmk := fun W => run_makeN (P := Tryz.prog) 33 2 _ 1 8 Tryz.underlying33 infoI n (by omega) (by omega) W
  go_enter Tryz.func197, Tryz.ntmps197
  go_wp2
  go_loopg [4] n (fun g i wr => ∃ (k : Nat) (f : Nat → Value), k + g = n ∧ i = .int .i64 k ∧ Below w.heap.size w wr ∧ w.heap.size < wr.heap.size ∧ wr.rowIs w.heap.size 2 n f ∧ (∀ j e, j < k → xs[j]? = some e → f j = .int .i64 e))
  case atStart => exact ⟨0, _, by omega, rfl, bl_al (bl_refl _) _, by simp, by have := rowIs_make w #[.int .i64 0] n 2; simpa [Value.cells] using this, fun j e hj => by omega⟩
  case round =>
    obtain ⟨k, f, hk, rfl, hbw, hsz, hrow, hf⟩ := hrel
    have r1 := h.below RInt.stable hbw
    by_cases hlt : k < n
    · obtain ⟨b, o, rfl, hb, hc⟩ := r1.ptr (by omega)
      obtain ⟨e, he⟩ := h.get hlt
      have HE := Lib.hid he
      have HF := Lib.hid hf
      have c1 := hc k e he
      unfold RInt at c1
      simp only [Nat.mul_one] at c1
      have hc0 := hrow.cell hlt
      have hf0 := hrow.frozen k
      clear hc he r1 hf
      go_wp2
      go_roundg (n - (k + 1))
      case measure => omega
      case rel => exact ⟨k + 1, _, by omega, by go_num, (by exact bel_), (by simp; omega), hrow.set k _, fun j e' hj he' => by
        have HF := HF.out
        rcases Nat.lt_succ_iff_lt_or_eq.1 hj with hj | rfl
        · have h3 := HF j e' hj he'
          rw [if_neg (by omega)]; exact h3
        · obtain rfl := Option.some.inj (HE.out.symm.trans he')
          rw [if_pos rfl]⟩
    · obtain rfl : k = n := by omega
      go_wp2
      go_ret
      refine ⟨_, rfl, ⟨h.len, _, f, rfl, Nat.le_refl _, by rw [Nat.mul_one]; exact hrow, fun j e he => ?_⟩, hbw⟩
      have hj : j < k := by rw [← h.len]; exact (List.getElem?_eq_some_iff.1 he).1
      have h3 := hf j e hj he
      rw [Nat.mul_one]
      exact (hrow.cell hj).trans (by rw [h3])
set_option maxHeartbeats 1000000 in
theorem toTile_any (s : ByteArray) (A : Option Addr) (n c : Nat) (xs : List Int) (w : World) (h : RdSl 1 RInt w A n xs) (hn : n ≤ 1073741824) :
    Calls Tryz.prog 162 #[.agg #[.string s, .slice A n c]] w (ResTi 2 w s n xs) := by
  have hb0 : ∀ o1 o2 o3 p u, w.heap.size ≤ p.block → Below w.heap.size w ((((w.alloc o1).alloc o2).alloc o3).setCell p u) := fun o1 o2 o3 p u hp => bl_set (bl_al (bl_al (bl_al (bl_refl _) _) _) _) hp _
  
  go_enter Tryz.func162, Tryz.ntmps162
  go_wp2_with (go_at_call 197; refine (toInt64S_any _ _ _ xs _ (h.below RInt.stable (by exact bel_)) hn).mono ?_; rintro e w1 ⟨A', rfl, how, hb1⟩; obtain ⟨chb1, fhb1, shb1, thb1⟩ := bcell hb1; (have b0 := shb1 w.heap.size (by go_simp)); (have b1 := shb1 (w.heap.size + 1) (by go_simp)); (have b2 := shb1 (w.heap.size + 1 + 1) (by go_simp)))
  refine bodyPost_ret (v := .agg #[.string s, .slice A' n n]) (by simp only [results, Tryz.results162]; go_simp) rfl ?_
  refine ⟨A', rfl, (((how.set (RInt.stableAt _) ?_ _).set (RInt.stableAt _) ?_ _).set (RInt.stableAt _) ?_ _).weaken ?_, ?_⟩
  all_goals exact bel_
set_option maxHeartbeats 2000000 in
theorem toTileS_any (A : Option Addr) (n c : Nat) (xs : List Ti) (w : World) (h : RdSl 2 RTi w A n xs) (hn : n ≤ 1073741824) (hx : ∀ e ∈ xs, e.sides.length ≤ 1073741824) :
    Calls Tryz.prog 116 #[.slice A n c] w (ResSl 145 2 (ROTi 2 w.heap.size) w n xs) := by
  have hmk := fun W => run_makeN (P := Tryz.prog) 25 145 _ 2 40 Tryz.underlying25 infoTi n (by omega) (by omega) W
  go_enter Tryz.func116, Tryz.ntmps116
  go_wp2
  go_loopg [4] n (fun g i wr => ∃ (k : Nat) (f : Nat → Value), k + g = n ∧ i = .int .i64 k ∧ Below w.heap.size w wr ∧ w.heap.size < wr.heap.size ∧ wr.rowIs w.heap.size 145 (n * 2) f ∧
    (∀ j e, j < k → xs[j]? = some e → f (j * 2) = .string e.name ∧ ∃ A' n', f (j * 2 + 1) = .slice A' n' n' ∧ OwSl 2 1 RInt wr (w.heap.size + 1) A' n' e.sides))
  case atStart => exact ⟨0, _, by omega, rfl, bl_al (bl_refl _) _, by simp, rowIs_make _ _ _ _, fun j e hj => by omega⟩
  case round =>
    obtain ⟨k, f, hk, rfl, hbw, hsz, hrow, hf⟩ := hrel
    have r1 := h.below RTi.stable hbw
    by_cases hlt : k < n
    · obtain ⟨b, o, rfl, hb, hc⟩ := r1.ptr (by omega)
      obtain ⟨e, he⟩ := h.get hlt
      have HE := Lib.hid he
      have HF := Lib.hid hf
      obtain ⟨c1, A1, n1, d1, c1b, hs1⟩ := hc k e he
      have hm : n1 ≤ 1073741824 := by rw [← hs1.len]; exact hx e (List.mem_of_getElem? he)
      clear hc he r1 hf
      go_wp2_with (go_at_call 162; refine (toTile_any _ _ _ _ _ _ hs1 hm).mono ?_; rintro e' w1 ⟨A', rfl, how, hb1⟩; have hrow1 := hrow.of_block (hb1.block _ hrow.lt); have hc0 := hrow1.cell (i := k * 2) (by omega); have hf0 := hrow1.frozen (k * 2); have hc1 := hrow1.cell (i := k * 2 + 1) (by omega); have hf1 := hrow1.frozen (k * 2 + 1))
      go_roundg (n - (k + 1))
      case measure => omega
      case rel => exact ⟨k + 1, _, by omega, by go_num, (by exact bel_), (by have := hb1.size; simp; omega), (hrow1.set (k * 2) _).set (k * 2 + 1) _, fun j e' hj he' => by
        have HF := HF.out
        rcases Nat.lt_succ_iff_lt_or_eq.1 hj with hj | rfl
        · obtain ⟨h3, A3, n3, h4, h5⟩ := HF j e' hj he'
          rw [if_neg (by omega), if_neg (by omega), if_neg (by omega), if_neg (by omega)]
          exact ⟨h3, A3, n3, h4, ((h5.below RInt.stable hb1).set (RInt.stableAt _) (Nat.lt_succ_self _) _).set (RInt.stableAt _) (Nat.lt_succ_self _) _⟩
        · obtain rfl := Option.some.inj (HE.out.symm.trans he')
          rw [if_neg (by omega), if_pos rfl, if_pos rfl]
          have how' := how.weaken (lo' := w.heap.size + 1) (by have := hsz; omega)
          exact ⟨rfl, A', n1, rfl, (how'.set (RInt.stableAt _) (Nat.lt_succ_self _) _).set (RInt.stableAt _) (Nat.lt_succ_self _) _⟩⟩
    · obtain rfl : k = n := by omega
      go_wp2
      go_ret
      refine ⟨_, rfl, ⟨h.len, _, f, rfl, Nat.le_refl _, hrow, fun j e he => ?_⟩, hbw⟩
      have hj : j < k := by rw [← h.len]; exact (List.getElem?_eq_some_iff.1 he).1
      obtain ⟨h3, A3, n3, h4, h5⟩ := hf j e hj he
      exact ⟨(hrow.cell (by omega)).trans (by rw [h3]), A3, n3, (hrow.cell (by omega)).trans (by rw [h4]), h5.weaken (by omega)⟩

set_option maxHeartbeats 1000000 in
theorem toTileSet_any (A B : Option Addr) (n c m d : Nat) (gs : List Gl) (ts : List Ti) (w : World) (h : RdSl 2 RGl w A n gs) (k : RdSl 2 RTi w B m ts) (hn : n ≤ 1073741824) (hm : m ≤ 1073741824) (hx : ∀ e ∈ ts, e.sides.length ≤ 1073741824) :
    Calls Tryz.prog 59 #[.agg #[.slice A n c, .slice B m d]] w (ResSet 143 145 2 w n gs m ts) := by
  go_enter Tryz.func59, Tryz.ntmps59
  go_wp2_with (go_at_call 115; refine (toGlueS_any _ _ _ gs _ (h.below RGl.stable (by exact bel_)) hn).mono ?_; rintro e w1 ⟨A', rfl, how, hb1⟩; obtain ⟨chb1, fhb1, shb1, thb1⟩ := bcell hb1; (have b0 := shb1 w.heap.size (by go_simp)); (have b1 := shb1 (w.heap.size + 1) (by go_simp)); (have b2 := shb1 (w.heap.size + 1 + 1) (by go_simp)))
  go_wp2_with (go_at_call 116; refine (toTileS_any _ _ _ ts _ (k.below RTi.stable (by exact bel_)) hm hx).mono ?_; rintro e w2 ⟨B', rfl, how2, hb2⟩; obtain ⟨chb2, fhb2, shb2, thb2⟩ := bcell hb2; (have c0 := shb2 w.heap.size (by go_simp)); (have c1 := shb2 (w.heap.size + 1) (by go_simp)); (have c2 := shb2 (w.heap.size + 1 + 1) (by go_simp)))
  refine bodyPost_ret (v := .agg #[.slice A' n n, .slice B' m m]) (by simp only [results, Tryz.results59]; go_simp) rfl ?_
  have e1 : w.heap.size ≤ w1.heap.size := by omega
  refine ⟨A', B', rfl, (((((how.set (RGl.stableAt _) ?_ _).below RGl.stable hb2).set (RGl.stableAt _) ?_ _).set (RGl.stableAt _) ?_ _).set (RGl.stableAt _) ?_ _).weaken ?_, ((((how2.set (ROTi.stableAt _ _) ?_ _).set (ROTi.stableAt _ _) ?_ _).set (ROTi.stableAt _ _) ?_ _).weakenTi ?_ ?_), ?_⟩
  all_goals exact bel_
def ResAs (T : Nat) (w : World) (n : Nat) (xs : List Pl) (e : Ending) (w' : World) : Prop :=
  ∃ A, e = .returned (.agg #[.slice A n n]) ∧ OwSl T 3 RPl w' w.heap.size A n xs ∧ Below w.heap.size w w'
theorem toAssembly_any (A : Option Addr) (n c : Nat) (xs : List Pl) (w : World) (h : RdSl 3 RPl w A n xs) (hn : n ≤ 1073741824) :
    Calls Tryz.prog 23 #[.agg #[.slice A n c]] w (ResAs 149 w n xs) := by
  go_enter Tryz.func23, Tryz.ntmps23
  go_wp2_with (go_at_call 60; refine (toPlacedS_any _ _ _ xs _ (h.below RPl.stable (by exact bel_)) hn).mono ?_; rintro e w1 ⟨A', rfl, how, hb1⟩; obtain ⟨chb1, fhb1, shb1, thb1⟩ := bcell hb1; (have b0 := shb1 w.heap.size (by go_simp)); (have b1 := shb1 (w.heap.size + 1) (by go_simp)); (have b2 := shb1 (w.heap.size + 1 + 1) (by go_simp)))
  refine bodyPost_ret (v := .agg #[.slice A' n n]) (by simp only [results, Tryz.results23]; go_simp) rfl ?_
  refine ⟨A', rfl, ((how.set (RPl.stableAt _) ?_ _).set (RPl.stableAt _) ?_ _).weaken ?_, ?_⟩
  all_goals exact bel_
end Go.Proofs.YtmhgjgclclnmaaaGreat
