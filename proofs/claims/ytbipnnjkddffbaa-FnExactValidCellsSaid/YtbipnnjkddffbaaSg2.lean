/- Walks: the harness' copies of signal sets and cells (printed by gen_sg.py). -/
import Derived.Test.YtbipnnjkddffbaaHTo
import Derived.Test.YtbipnnjkddffbaaSg1
namespace Go.Proofs.Ytbipnnjkddffbaa
open Go.RowKit
set_option linter.unusedSimpArgs false
set_option linter.unusedVariables false
attribute [local go_sem] BelowBy.cell BelowBy.cell_drew stillUpon givesUpon
theorem infoB : (Try.prog.info? 4).map (fun i => (i.zero, i.size, i.bytes)) = some (some (.bool false), 1, 1) := by kernel_rfl
theorem infoFi : (Try.prog.info? 141).map (fun i => (i.zero, i.size, i.bytes)) = some (some (.agg #[.int .i64 0, .int .i64 0]), 2, 16) := by kernel_rfl
theorem infoSti : (Try.prog.info? 127).map (fun i => (i.zero, i.size, i.bytes)) = some (some (.agg #[.string ByteArray.empty, .slice none 0 0, .slice none 0 0, .slice none 0 0]), 4, 88) := by kernel_rfl
theorem infoSc : (Try.prog.info? 76).map (fun i => (i.zero, i.size, i.bytes)) = some (some (.agg #[.int .i64 0, .int .i64 0, .int .i64 0, .slice none 0 0, .slice none 0 0, .slice none 0 0]), 6, 96) := by kernel_rfl
set_option maxHeartbeats 1000000 in
theorem toBoolS_any (A : Option Addr) (n c : Nat) (xs : List Bool) (w : World) (h : RdSl 1 RBool w A n xs) (hn : n ≤ 1073741824) :
    Calls Try.prog 67 #[.slice A n c] w (ResSl 4 1 RBool w n xs) := by
  have hmk := fun W => run_makeN (P := Try.prog) 67 4 _ 1 1 Try.underlying67 infoB n (by omega) (by omega) W
  go_enter Try.func67, Try.ntmps67
  go_wp2
  go_loopg [4] n (fun g i wr => ∃ (k : Nat) (f : Nat → Value), k + g = n ∧ i = .int .i64 k ∧ Below w.heap.size w wr ∧ w.heap.size < wr.heap.size ∧ wr.rowIs w.heap.size 4 n f ∧ (∀ j e, j < k → xs[j]? = some e → f j = .bool e))
  case atStart => exact ⟨0, _, by omega, rfl, bl_al (bl_refl _) _, by simp, by have := rowIs_make w #[.bool false] n 4; simpa [Value.cells] using this, fun j e hj => by omega⟩
  case round =>
    obtain ⟨k, f, hk, rfl, hbw, hsz, hrow, hf⟩ := hrel
    have r1 := h.below RBool.stable hbw
    by_cases hlt : k < n
    · obtain ⟨b, o, rfl, hb, hc⟩ := r1.ptr (by omega)
      obtain ⟨e, he⟩ := h.get hlt
      have HE := Lib.hid he
      have HF := Lib.hid hf
      have c1 := hc k e he
      unfold RBool at c1
      simp only [Nat.mul_one] at c1
      have hc0 := hrow.cell hlt
      have hf0 := hrow.frozen k
      clear hc he r1 hf
      go_wp2
      go_roundg (n - (k + 1))
      case measure => omega
      case rel => exact ⟨k + 1, _, by omega, by go_num, (by exact bel_), (by simp; omega), hrow.set k _, fun j e' hj he' => by
        have HF := HF.out
        rcases Nat.lt_succ_iff_lt_or_eq.1 hj with hj | rfl
        · have h3 := HF j e' hj he'
          rw [if_neg (by omega)]; exact h3
        · obtain rfl := Option.some.inj (HE.out.symm.trans he')
          rw [if_pos rfl]⟩
    · obtain rfl : k = n := by omega
      go_wp2
      go_ret
      refine ⟨_, rfl, ⟨h.len, _, f, rfl, Nat.le_refl _, by rw [Nat.mul_one]; exact hrow, fun j e he => ?_⟩, hbw⟩
      have hj : j < k := by rw [← h.len]; exact (List.getElem?_eq_some_iff.1 he).1
      have h3 := hf j e hj he
      rw [Nat.mul_one]
      exact (hrow.cell hj).trans (by rw [h3])
theorem toFire_any (x y : Int) (w : World) :
    Calls Try.prog 150 #[.agg #[.int .i64 x, .int .i64 y]] w fun e w' => e = .returned (.agg #[.int .i64 x, .int .i64 y]) ∧ Below w.heap.size w w' := by
  go_enter Try.func150, Try.ntmps150
  go_wp2
  refine bodyPost_ret (v := .agg #[.int .i64 x, .int .i64 y]) (by simp only [results, Try.results150]; go_simp) rfl ?_
  refine ⟨rfl, ?_⟩
  exact bel_
set_option maxHeartbeats 2000000 in
theorem toFireS_any (A : Option Addr) (n c : Nat) (xs : List Fi) (w : World) (h : RdSl 2 RFi w A n xs) (hn : n ≤ 1073741824) :
    Calls Try.prog 115 #[.slice A n c] w (ResSl 141 2 RFi w n xs) := by
  have hmk := fun W => run_makeN (P := Try.prog) 125 141 _ 2 16 Try.underlying125 infoFi n (by omega) (by omega) W
  go_enter Try.func115, Try.ntmps115
  go_wp2
  go_loopg [4] n (fun g i wr => ∃ (k : Nat) (f : Nat → Value), k + g = n ∧ i = .int .i64 k ∧ Below w.heap.size w wr ∧ w.heap.size < wr.heap.size ∧ wr.rowIs w.heap.size 141 (n * 2) f ∧ (∀ j e, j < k → xs[j]? = some e → f (j * 2) = .int .i64 e.f ∧ f (j * 2 + 1) = .int .i64 e.t))
  case atStart => exact ⟨0, _, by omega, rfl, bl_al (bl_refl _) _, by simp, rowIs_make _ _ _ _, fun j e hj => by omega⟩
  case round =>
    obtain ⟨k, f, hk, rfl, hbw, hsz, hrow, hf⟩ := hrel
    have r1 := h.below RFi.stable hbw
    by_cases hlt : k < n
    · obtain ⟨b, o, rfl, hb, hc⟩ := r1.ptr (by omega)
      obtain ⟨e, he⟩ := h.get hlt
      have HE := Lib.hid he
      have HF := Lib.hid hf
      obtain ⟨c1, c1b⟩ := hc k e he
      clear hc he r1 hf
      go_wp2_with (go_at_call 150; refine (toFire_any _ _ _).mono ?_; rintro e' w1 ⟨rfl, hb1⟩; have hrow1 := hrow.of_block (hb1.block _ hrow.lt); have hc0 := hrow1.cell (i := k * 2) (by omega); have hf0 := hrow1.frozen (k * 2); have hc1 := hrow1.cell (i := k * 2 + 1) (by omega); have hf1 := hrow1.frozen (k * 2 + 1))
      go_roundg (n - (k + 1))
      case measure => omega
      case rel => exact ⟨k + 1, _, by omega, by go_num, (by exact bel_), (by have := hb1.size; simp; omega), (hrow1.set (k * 2) _).set (k * 2 + 1) _, fun j e' hj he' => by
        have HF := HF.out
        rcases Nat.lt_succ_iff_lt_or_eq.1 hj with hj | rfl
        · have h3 := HF j e' hj he'
          rw [if_neg (by omega), if_neg (by omega), if_neg (by omega), if_neg (by omega)]; exact h3
        · obtain rfl := Option.some.inj (HE.out.symm.trans he')
          rw [if_neg (by omega), if_pos rfl, if_pos rfl]; exact ⟨rfl, rfl⟩⟩
    · obtain rfl : k = n := by omega
      go_wp2
      go_ret
      refine ⟨_, rfl, ⟨h.len, _, f, rfl, Nat.le_refl _, hrow, fun j e he => ?_⟩, hbw⟩
      have hj : j < k := by rw [← h.len]; exact (List.getElem?_eq_some_iff.1 he).1
      have h3 := hf j e hj he
      exact ⟨(hrow.cell (by omega)).trans (by rw [h3.1]), (hrow.cell (by omega)).trans (by rw [h3.2])⟩
def ResSti (Ti Tb Tf : Nat) (w : World) (x : Sti) (e : Ending) (w' : World) : Prop :=
  ∃ v1 v2 v3, e = .returned (.agg #[.string x.name, v1, v2, v3]) ∧ TiV Ti Tb Tf w' w.heap.size (.string x.name) v1 v2 v3 x ∧ Below w.heap.size w w'
set_option maxHeartbeats 2000000 in
theorem toSignalTile_any (A B C : Option Addr) (n c m d k ck : Nat) (x : Sti) (w : World) (h1 : RdSl 1 RInt w A n x.sides) (h2 : RdSl 1 RBool w B m x.on) (h3 : RdSl 2 RFi w C k x.fires) (hn : n ≤ 1073741824) (hm : m ≤ 1073741824) (hk : k ≤ 1073741824) :
    Calls Try.prog 65 #[.agg #[.string x.name, .slice A n c, .slice B m d, .slice C k ck]] w (ResSti 2 4 141 w x) := by
  
  go_enter Try.func65, Try.ntmps65
  go_wp2_with (go_at_call 114; refine (toInt64S_any _ _ _ x.sides _ (h1.below RInt.stable (by exact bel_)) hn).mono ?_; rintro e w1 ⟨A1, rfl, ohb1, hb1⟩; obtain ⟨chb1, fhb1, shb1, thb1⟩ := bcell hb1; (have b0 := shb1 (w.heap.size) (by go_simp)); (have b1 := shb1 (w.heap.size + 1) (by go_simp)); (have b2 := shb1 (w.heap.size + 1 + 1) (by go_simp)))
  go_wp2_with (go_at_call 67; refine (toBoolS_any _ _ _ x.on _ (h2.below RBool.stable (by exact bel_)) hm).mono ?_; rintro e w2 ⟨A2, rfl, ohb2, hb2⟩; obtain ⟨chb2, fhb2, shb2, thb2⟩ := bcell hb2; (have c0 := shb2 (w.heap.size) (by go_simp)); (have c1 := shb2 (w.heap.size + 1) (by go_simp)); (have c2 := shb2 (w.heap.size + 1 + 1) (by go_simp)))
  go_wp2_with (go_at_call 115; refine (toFireS_any _ _ _ x.fires _ (h3.below RFi.stable (by exact bel_)) hk).mono ?_; rintro e w3 ⟨A3, rfl, ohb3, hb3⟩; obtain ⟨chb3, fhb3, shb3, thb3⟩ := bcell hb3; (have d0 := shb3 (w.heap.size) (by go_simp)); (have d1 := shb3 (w.heap.size + 1) (by go_simp)); (have d2 := shb3 (w.heap.size + 1 + 1) (by go_simp)))
  refine bodyPost_ret (v := .agg #[.string x.name, .slice A1 n n, .slice A2 m m, .slice A3 k k]) (by simp only [results, Try.results65]; go_simp) rfl ?_
  have e1 : w.heap.size ≤ w1.heap.size := by omega
  have e2 : w.heap.size ≤ w2.heap.size := by omega
  refine ⟨_, _, _, rfl, ⟨rfl, ⟨A1, n, rfl, ((((((((((ohb1.set (RInt.stableAt _) ?_ _).below RInt.stable hb2).set (RInt.stableAt _) ?_ _).below RInt.stable hb3).set (RInt.stableAt _) ?_ _).set (RInt.stableAt _) ?_ _).set (RInt.stableAt _) ?_ _).set (RInt.stableAt _) ?_ _).set (RInt.stableAt _) ?_ _).weaken ?_)⟩, ⟨A2, m, rfl, ((((((((ohb2.set (RBool.stableAt _) ?_ _).below RBool.stable hb3).set (RBool.stableAt _) ?_ _).set (RBool.stableAt _) ?_ _).set (RBool.stableAt _) ?_ _).set (RBool.stableAt _) ?_ _).set (RBool.stableAt _) ?_ _).weaken ?_)⟩, ⟨A3, k, rfl, ((((((ohb3.set (RFi.stableAt _) ?_ _).set (RFi.stableAt _) ?_ _).set (RFi.stableAt _) ?_ _).set (RFi.stableAt _) ?_ _).set (RFi.stableAt _) ?_ _).weaken ?_)⟩⟩, ?_⟩
  all_goals exact bel_
/-- a signal tile whose rows are of a call's own making -/
def ROSti (Ti Tb Tf lo : Nat) (w : World) (b o : Nat) (e : Sti) : Prop := ∃ v0 v1 v2 v3, w.cell? ⟨b, o, none⟩ = some v0 ∧ w.cell? ⟨b, o + 1, none⟩ = some v1 ∧ w.cell? ⟨b, o + 2, none⟩ = some v2 ∧ w.cell? ⟨b, o + 3, none⟩ = some v3 ∧ TiV Ti Tb Tf w lo v0 v1 v2 v3 e
theorem ROSti.rd {Ti Tb Tf lo : Nat} {w : World} {b o : Nat} {e : Sti} (h : ROSti Ti Tb Tf lo w b o e) : RSti w b o e := by
  obtain ⟨v0, v1, v2, v3, c0, c1, c2, c3, rfl, h1, h2, h3⟩ := h
  exact ⟨c0, h1.slc c1, h2.slc c2, h3.slc c3⟩
theorem ROSti.stable (Ti Tb Tf lo : Nat) : Stable (ROSti Ti Tb Tf lo) := fun _ _ _ _ _ ⟨v0, v1, v2, v3, c0, c1, c2, c3, h⟩ hb hw =>
  ⟨v0, v1, v2, v3, (hw.cell (by exact hb)).trans c0, (hw.cell (by exact hb)).trans c1, (hw.cell (by exact hb)).trans c2, (hw.cell (by exact hb)).trans c3, h.below hw⟩
theorem ROSti.stableAt (Ti Tb Tf lo : Nat) : StableAt lo (ROSti Ti Tb Tf lo) := fun w _ b o _ ⟨v0, v1, v2, v3, c0, c1, c2, c3, h⟩ hlo hb hk =>
  ⟨v0, v1, v2, v3, (World.cell?_of_block (w := w) (a := ⟨b, o, none⟩) (hk b hlo hb)).trans c0, (World.cell?_of_block (w := w) (a := ⟨b, o + 1, none⟩) (hk b hlo hb)).trans c1, (World.cell?_of_block (w := w) (a := ⟨b, o + 2, none⟩) (hk b hlo hb)).trans c2, (World.cell?_of_block (w := w) (a := ⟨b, o + 3, none⟩) (hk b hlo hb)).trans c3, h.keep hk⟩
theorem OwSl.rdSti {T Ti Tb Tf lo lo' : Nat} {w : World} {A : Option Addr} {n : Nat} {xs : List Sti} (h : OwSl T 4 (ROSti Ti Tb Tf lo) w lo' A n xs) : RdSl 4 RSti w A n xs :=
  ⟨h.len, fun hn => by
    obtain ⟨b, o, hA, hb, hc⟩ := h.rd.cells hn
    exact ⟨b, o, hA, hb, fun k hk => (hc k hk).rd⟩⟩
set_option maxHeartbeats 2000000 in
theorem toSignalTileS_any (A : Option Addr) (n c : Nat) (xs : List Sti) (w : World) (h : RdSl 4 RSti w A n xs) (hn : n ≤ 1073741824) (hx : ∀ e ∈ xs, e.sides.length ≤ 1073741824 ∧ e.on.length ≤ 1073741824 ∧ e.fires.length ≤ 1073741824) :
    Calls Try.prog 29 #[.slice A n c] w (ResSl 127 4 (ROSti 2 4 141 w.heap.size) w n xs) := by
  
  have hmk := fun W => run_makeN (P := Try.prog) 31 127 _ 4 88 Try.underlying31 infoSti n (by omega) (by omega) W
  go_enter Try.func29, Try.ntmps29
  go_wp2
  go_loopg [4] n (fun g i wr => ∃ (k : Nat) (f : Nat → Value), k + g = n ∧ i = .int .i64 k ∧ Below w.heap.size w wr ∧ w.heap.size < wr.heap.size ∧ wr.rowIs w.heap.size 127 (n * 4) f ∧
    (∀ j e, j < k → xs[j]? = some e → TiV 2 4 141 wr (w.heap.size + 1) (f (j * 4)) (f (j * 4 + 1)) (f (j * 4 + 2)) (f (j * 4 + 3)) e))
  case atStart => exact ⟨0, _, by omega, rfl, bl_al (bl_refl _) _, by simp, rowIs_make _ _ _ _, fun j e hj => by omega⟩
  case round =>
    obtain ⟨k, f, hk, rfl, hbw, hsz, hrow, hf⟩ := hrel
    have r1 := h.below RSti.stable hbw
    by_cases hlt : k < n
    · obtain ⟨b, o, rfl, hb, hc⟩ := r1.ptr (by omega)
      obtain ⟨e, he⟩ := h.get hlt
      have HE := Lib.hid he
      have HF := Lib.hid hf
      obtain ⟨c1, ⟨A1, n1, d1, c1b, hs1⟩, ⟨A2, n2, d2, c2b, hs2⟩, ⟨A3, n3, d3, c3b, hs3⟩⟩ := hc k e he
      obtain ⟨l1, l2, l3⟩ := hx e (List.mem_of_getElem? he)
      have hm1 : n1 ≤ 1073741824 := by rw [← hs1.len]; exact l1
      have hm2 : n2 ≤ 1073741824 := by rw [← hs2.len]; exact l2
      have hm3 : n3 ≤ 1073741824 := by rw [← hs3.len]; exact l3
      have hs1H := Lib.hid hs1
      have hs2H := Lib.hid hs2
      have hs3H := Lib.hid hs3
      clear hc he r1 hf hs1 hs2 hs3 l1 l2 l3
      go_wp2_with (go_at_call 65; refine (toSignalTile_any _ _ _ _ _ _ _ _ _ e _ hs1H.out hs2H.out hs3H.out hm1 hm2 hm3).mono ?_; rintro e' w1 ⟨v1, v2, v3, rfl, htv, hb1⟩; have hrow1 := hrow.of_block (hb1.block _ hrow.lt); have hc0 := hrow1.cell (i := k * 4) (by omega); have hf0 := hrow1.frozen (k * 4); have hc1 := hrow1.cell (i := k * 4 + 1) (by omega); have hf1 := hrow1.frozen (k * 4 + 1); have hc2 := hrow1.cell (i := k * 4 + 2) (by omega); have hf2 := hrow1.frozen (k * 4 + 2); have hc3 := hrow1.cell (i := k * 4 + 3) (by omega); have hf3 := hrow1.frozen (k * 4 + 3); obtain ⟨_, ⟨B1, m1, rfl, o1⟩, ⟨B2, m2, rfl, o2⟩, ⟨B3, m3, rfl, o3⟩⟩ := htv; have htvH := Lib.hid (show TiV 2 4 141 w1 wr.heap.size (.string e.name) (.slice B1 m1 m1) (.slice B2 m2 m2) (.slice B3 m3 m3) e from ⟨rfl, ⟨B1, m1, rfl, o1⟩, ⟨B2, m2, rfl, o2⟩, ⟨B3, m3, rfl, o3⟩⟩); clear o1 o2 o3)
      go_roundg (n - (k + 1))
      case measure => omega
      case rel => exact ⟨k + 1, _, by omega, by go_num, (by exact bel_), (by have := hb1.size; simp; omega), (((hrow1.set (k * 4) _).set (k * 4 + 1) _).set (k * 4 + 2) _).set (k * 4 + 3) _, fun j e' hj he' => by
        have HF := HF.out
        rcases Nat.lt_succ_iff_lt_or_eq.1 hj with hj | rfl
        · have h3 := (HF j e' hj he').below hb1
          repeat rw [if_neg (by omega)]
          exact (((h3.set (Nat.lt_succ_self _) _).set (Nat.lt_succ_self _) _).set (Nat.lt_succ_self _) _).set (Nat.lt_succ_self _) _
        · obtain rfl := Option.some.inj (HE.out.symm.trans he')
          have h3 := htvH.out.weaken (lo' := w.heap.size + 1) (by have := hsz; omega)
          rw [if_neg (by omega), if_neg (by omega), if_neg (by omega), if_pos rfl, if_neg (by omega), if_neg (by omega), if_pos rfl, if_neg (by omega), if_pos rfl, if_pos rfl]
          exact (((h3.set (Nat.lt_succ_self _) _).set (Nat.lt_succ_self _) _).set (Nat.lt_succ_self _) _).set (Nat.lt_succ_self _) _⟩
    · obtain rfl : k = n := by omega
      go_wp2
      go_ret
      refine ⟨_, rfl, ⟨h.len, _, f, rfl, Nat.le_refl _, hrow, fun j e he => ?_⟩, hbw⟩
      have hj : j < k := by rw [← h.len]; exact (List.getElem?_eq_some_iff.1 he).1
      exact ⟨_, _, _, _, hrow.cell (by omega), hrow.cell (by omega), hrow.cell (by omega), hrow.cell (by omega), (hf j e hj he).weaken (by omega)⟩
theorem toSignalSet_any (A B : Option Addr) (n c m d : Nat) (gs : List Gl) (ts : List Sti) (w : World) (h : RdSl 2 RGl w A n gs) (k : RdSl 4 RSti w B m ts) (hn : n ≤ 1073741824) (hm : m ≤ 1073741824) (hx : ∀ e ∈ ts, e.sides.length ≤ 1073741824 ∧ e.on.length ≤ 1073741824 ∧ e.fires.length ≤ 1073741824) :
    Calls Try.prog 8 #[.agg #[.slice A n c, .slice B m d]] w fun e w' => ∃ A' B', e = .returned (.agg #[.slice A' n n, .slice B' m m]) ∧ RdSl 2 RGl w' A' n gs ∧ RdSl 4 RSti w' B' m ts ∧ Below w.heap.size w w' := by
  
  go_enter Try.func8, Try.ntmps8
  go_wp2_with (go_at_call 28; refine (toGlueS_any _ _ _ gs _ (h.below RGl.stable (by exact bel_)) hn).mono ?_; rintro e w1 ⟨A', rfl, how, hb1⟩; obtain ⟨chb1, fhb1, shb1, thb1⟩ := bcell hb1; (have b0 := shb1 w.heap.size (by go_simp)); (have b1 := shb1 (w.heap.size + 1) (by go_simp)); (have b2 := shb1 (w.heap.size + 1 + 1) (by go_simp)))
  go_wp2_with (go_at_call 29; refine (toSignalTileS_any _ _ _ ts _ (k.below RSti.stable (by exact bel_)) hm hx).mono ?_; rintro e w2 ⟨B', rfl, how2, hb2⟩; obtain ⟨chb2, fhb2, shb2, thb2⟩ := bcell hb2; (have c0 := shb2 w.heap.size (by go_simp)); (have c1 := shb2 (w.heap.size + 1) (by go_simp)); (have c2 := shb2 (w.heap.size + 1 + 1) (by go_simp)))
  refine bodyPost_ret (v := .agg #[.slice A' n n, .slice B' m m]) (by simp only [results, Try.results8]; go_simp) rfl ?_
  have e1 : w.heap.size ≤ w1.heap.size := by omega
  refine ⟨A', B', rfl, (((((how.set (RGl.stableAt _) ?_ _).below RGl.stable hb2).set (RGl.stableAt _) ?_ _).set (RGl.stableAt _) ?_ _).set (RGl.stableAt _) ?_ _).rd, (((how2.set (ROSti.stableAt _ _ _ _) ?_ _).set (ROSti.stableAt _ _ _ _) ?_ _).set (ROSti.stableAt _ _ _ _) ?_ _).rdSti, ?_⟩
  all_goals exact bel_
def ResSc (Tb : Nat) (w : World) (x : Sc) (e : Ending) (w' : World) : Prop :=
  ∃ A1 n1 A2 n2 A3 n3, e = .returned (.agg #[.int .i64 x.x, .int .i64 x.y, .int .i64 x.t, .slice A1 n1 n1, .slice A2 n2 n2, .slice A3 n3 n3]) ∧ ScV Tb w' w.heap.size (.int .i64 x.x) (.int .i64 x.y) (.int .i64 x.t) (.slice A1 n1 n1) (.slice A2 n2 n2) (.slice A3 n3 n3) x ∧ Below w.heap.size w w'
set_option maxHeartbeats 2000000 in
theorem toSignalCell_any (A B C : Option Addr) (n c m d k ck : Nat) (x : Sc) (w : World) (h1 : RdSl 1 RBool w A n x.on) (h2 : RdSl 1 RBool w B m x.bound) (h3 : RdSl 1 RBool w C k x.fired) (hn : n ≤ 1073741824) (hm : m ≤ 1073741824) (hk : k ≤ 1073741824) :
    Calls Try.prog 30 #[.agg #[.int .i64 x.x, .int .i64 x.y, .int .i64 x.t, .slice A n c, .slice B m d, .slice C k ck]] w (ResSc 4 w x) := by
  
  go_enter Try.func30, Try.ntmps30
  go_wp2_with fail
  refine (toPoint_any _ _ _).mono ?_
  rintro e w0 ⟨rfl, hb0⟩
  obtain ⟨chb0, fhb0, shb0, thb0⟩ := bcell hb0; (have a0 := shb0 w.heap.size (by go_simp)); (have a1 := shb0 (w.heap.size + 1) (by go_simp)); (have a2 := shb0 (w.heap.size + 1 + 1) (by go_simp))
  go_wp2_with fail
  refine (toBoolS_any _ _ _ x.on _ (h1.below RBool.stable (by exact bel_)) hn).mono ?_; rintro e w1 ⟨A1, rfl, ohb1, hb1⟩; obtain ⟨chb1, fhb1, shb1, thb1⟩ := bcell hb1; (have b0 := shb1 (w.heap.size) (by go_simp)); (have b1 := shb1 (w.heap.size + 1) (by go_simp)); (have b2 := shb1 (w.heap.size + 1 + 1) (by go_simp))
  go_wp2_with fail
  refine (toBoolS_any _ _ _ x.bound _ (h2.below RBool.stable (by exact bel_)) hm).mono ?_; rintro e w2 ⟨A2, rfl, ohb2, hb2⟩; obtain ⟨chb2, fhb2, shb2, thb2⟩ := bcell hb2; (have c0 := shb2 (w.heap.size) (by go_simp)); (have c1 := shb2 (w.heap.size + 1) (by go_simp)); (have c2 := shb2 (w.heap.size + 1 + 1) (by go_simp))
  go_wp2_with fail
  refine (toBoolS_any _ _ _ x.fired _ (h3.below RBool.stable (by exact bel_)) hk).mono ?_; rintro e w3 ⟨A3, rfl, ohb3, hb3⟩; obtain ⟨chb3, fhb3, shb3, thb3⟩ := bcell hb3; (have d0 := shb3 (w.heap.size) (by go_simp)); (have d1 := shb3 (w.heap.size + 1) (by go_simp)); (have d2 := shb3 (w.heap.size + 1 + 1) (by go_simp))
  go_wp2_with fail
  refine bodyPost_ret (v := .agg #[.int .i64 x.x, .int .i64 x.y, .int .i64 x.t, .slice A1 n n, .slice A2 m m, .slice A3 k k]) (by simp only [results, Try.results30]; go_simp) rfl ?_
  have e1 : w.heap.size ≤ w1.heap.size := by omega
  have e2 : w.heap.size ≤ w2.heap.size := by omega
  refine ⟨_, _, _, _, _, _, rfl, ⟨rfl, rfl, rfl, ⟨A1, n, rfl, ((((((((((((ohb1).set (RBool.stableAt _) ?_ _).below RBool.stable hb2).set (RBool.stableAt _) ?_ _).below RBool.stable hb3).set (RBool.stableAt _) ?_ _).set (RBool.stableAt _) ?_ _).set (RBool.stableAt _) ?_ _).set (RBool.stableAt _) ?_ _).set (RBool.stableAt _) ?_ _).set (RBool.stableAt _) ?_ _).set (RBool.stableAt _) ?_ _).weaken ?_⟩, ⟨A2, m, rfl, ((((((((((ohb2).set (RBool.stableAt _) ?_ _).below RBool.stable hb3).set (RBool.stableAt _) ?_ _).set (RBool.stableAt _) ?_ _).set (RBool.stableAt _) ?_ _).set (RBool.stableAt _) ?_ _).set (RBool.stableAt _) ?_ _).set (RBool.stableAt _) ?_ _).set (RBool.stableAt _) ?_ _).weaken ?_⟩, ⟨A3, k, rfl, ((((((((ohb3).set (RBool.stableAt _) ?_ _).set (RBool.stableAt _) ?_ _).set (RBool.stableAt _) ?_ _).set (RBool.stableAt _) ?_ _).set (RBool.stableAt _) ?_ _).set (RBool.stableAt _) ?_ _).set (RBool.stableAt _) ?_ _).weaken ?_⟩⟩, ?_⟩
  all_goals exact bel_
set_option maxHeartbeats 4000000 in
theorem toSignalCellS_any (A : Option Addr) (n c : Nat) (xs : List Sc) (w : World) (h : RdSl 6 RSc w A n xs) (hn : n ≤ 1073741824) (hx : ∀ e ∈ xs, e.on.length ≤ 1073741824 ∧ e.bound.length ≤ 1073741824 ∧ e.fired.length ≤ 1073741824) :
    Calls Try.prog 9 #[.slice A n c] w fun e w' => ∃ B, e = .returned (.slice B n n) ∧ RdSl 6 RSc w' B n xs ∧ Below w.heap.size w w' := by
  
  have hmk := fun W => run_makeN (P := Try.prog) 35 76 _ 6 96 Try.underlying35 infoSc n (by omega) (by omega) W
  go_enter Try.func9, Try.ntmps9
  go_wp2
  go_loopg [4] n (fun g i wr => ∃ (k : Nat) (f : Nat → Value), k + g = n ∧ i = .int .i64 k ∧ Below w.heap.size w wr ∧ w.heap.size < wr.heap.size ∧ wr.rowIs w.heap.size 76 (n * 6) f ∧
    (∀ j e, j < k → xs[j]? = some e → ScV 4 wr (w.heap.size + 1) (f (j * 6)) (f (j * 6 + 1)) (f (j * 6 + 2)) (f (j * 6 + 3)) (f (j * 6 + 4)) (f (j * 6 + 5)) e))
  case atStart => exact ⟨0, _, by omega, rfl, bl_al (bl_refl _) _, by simp, rowIs_make _ _ _ _, fun j e hj => by omega⟩
  case round =>
    obtain ⟨k, f, hk, rfl, hbw, hsz, hrow, hf⟩ := hrel
    have r1 := h.below RSc.stable hbw
    by_cases hlt : k < n
    · obtain ⟨b, o, rfl, hb, hc⟩ := r1.ptr (by omega)
      obtain ⟨e, he⟩ := h.get hlt
      have HE := Lib.hid he
      have HF := Lib.hid hf
      obtain ⟨c0, c1, c2, ⟨A1, n1, d1, c1b, hs1⟩, ⟨A2, n2, d2, c2b, hs2⟩, ⟨A3, n3, d3, c3b, hs3⟩⟩ := hc k e he
      obtain ⟨l1, l2, l3⟩ := hx e (List.mem_of_getElem? he)
      have hm1 : n1 ≤ 1073741824 := by rw [← hs1.len]; exact l1
      have hm2 : n2 ≤ 1073741824 := by rw [← hs2.len]; exact l2
      have hm3 : n3 ≤ 1073741824 := by rw [← hs3.len]; exact l3
      have hs1H := Lib.hid hs1
      have hs2H := Lib.hid hs2
      have hs3H := Lib.hid hs3
      clear hc he r1 hf hs1 hs2 hs3 l1 l2 l3
      go_wp2_with (go_at_call 30; refine (toSignalCell_any _ _ _ _ _ _ _ _ _ e _ hs1H.out hs2H.out hs3H.out hm1 hm2 hm3).mono ?_; rintro e' w1 ⟨B1, m1, B2, m2, B3, m3, rfl, htv, hb1⟩; have hrow1 := hrow.of_block (hb1.block _ hrow.lt); have hc0 := hrow1.cell (i := k * 6) (by omega); have hf0 := hrow1.frozen (k * 6); have hc1 := hrow1.cell (i := k * 6 + 1) (by omega); have hf1 := hrow1.frozen (k * 6 + 1); have hc2 := hrow1.cell (i := k * 6 + 2) (by omega); have hf2 := hrow1.frozen (k * 6 + 2); have hc3 := hrow1.cell (i := k * 6 + 3) (by omega); have hf3 := hrow1.frozen (k * 6 + 3); have hc4 := hrow1.cell (i := k * 6 + 4) (by omega); have hf4 := hrow1.frozen (k * 6 + 4); have hc5 := hrow1.cell (i := k * 6 + 5) (by omega); have hf5 := hrow1.frozen (k * 6 + 5); have htvH := Lib.hid htv; clear htv)
      go_roundg (n - (k + 1))
      case measure => omega
      case rel => exact ⟨k + 1, _, by omega, by go_num, (by exact bel_), (by have := hb1.size; simp; omega), (((((hrow1.set (k * 6) _).set (k * 6 + 1) _).set (k * 6 + 2) _).set (k * 6 + 3) _).set (k * 6 + 4) _).set (k * 6 + 5) _, fun j e' hj he' => by
        have HF := HF.out
        rcases Nat.lt_succ_iff_lt_or_eq.1 hj with hj | rfl
        · have h3 := (HF j e' hj he').below hb1
          repeat rw [if_neg (by omega)]
          exact (((((h3.set (Nat.lt_succ_self _) _).set (Nat.lt_succ_self _) _).set (Nat.lt_succ_self _) _).set (Nat.lt_succ_self _) _).set (Nat.lt_succ_self _) _).set (Nat.lt_succ_self _) _
        · obtain rfl := Option.some.inj (HE.out.symm.trans he')
          have h3 := htvH.out.weaken (lo' := w.heap.size + 1) (by have := hsz; omega)
          rw [if_neg (by omega), if_neg (by omega), if_neg (by omega), if_neg (by omega), if_neg (by omega), if_pos rfl, if_neg (by omega), if_neg (by omega), if_neg (by omega), if_neg (by omega), if_pos rfl, if_neg (by omega), if_neg (by omega), if_neg (by omega), if_pos rfl, if_neg (by omega), if_neg (by omega), if_pos rfl, if_neg (by omega), if_pos rfl, if_pos rfl]
          exact (((((h3.set (Nat.lt_succ_self _) _).set (Nat.lt_succ_self _) _).set (Nat.lt_succ_self _) _).set (Nat.lt_succ_self _) _).set (Nat.lt_succ_self _) _).set (Nat.lt_succ_self _) _⟩
    · obtain rfl : k = n := by omega
      go_wp2
      go_ret
      refine ⟨_, rfl, ⟨h.len, fun _ => ⟨_, 0, rfl, hrow.lt, fun j hj => ?_⟩⟩, hbw⟩
      have hj2 : j < k := by rw [← h.len]; exact hj
      obtain ⟨h0, h1, h2, h3, h4, h5⟩ := hf j _ hj2 (List.getElem?_eq_getElem hj)
      rw [Nat.zero_add]
      exact ⟨(hrow.cell (by omega)).trans (by rw [h0]), (hrow.cell (by omega)).trans (by rw [h1]), (hrow.cell (by omega)).trans (by rw [h2]), h3.slc (hrow.cell (by omega)), h4.slc (hrow.cell (by omega)), h5.slc (hrow.cell (by omega))⟩
end Go.Proofs.Ytbipnnjkddffbaa
