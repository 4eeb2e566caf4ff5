import Derived.Test.YtpnahobgmemdjaaBase2
import Derived.Test.YtpnahobgmemdjaaOrdApp
import Derived.Test.YtpnahobgmemdjaaOrdK
import Derived.Test.YtpnahobgmemdjaaW1
import Derived.Laws.Bits64b
set_option linter.unusedSimpArgs false
set_option linter.unusedVariables false
/- Walks: a source of numbers drawn from bytes. -/




namespace Go.Proofs.Ytpnahobgmemdjaa
open Go.RowKit
attribute [local go_sem] BelowBy.cell BelowBy.cell_drew stillUpon givesUpon

/-- a byte -/
def RBy (w : World) (b o : Nat) (e : Nat) : Prop := w.cell? ⟨b, o, none⟩ = some (.int .u8 (e : Int)) ∧ e < 256
theorem RBy.stable : Stable RBy := fun _ _ b o _ h hb hw => ⟨(hw.cell (p := ⟨b, o, none⟩) hb).trans h.1, h.2⟩
/-- a source in a block: the bytes, how many were asked for, a number -/
structure Src (w : World) (p : Nat) (C : Option Addr) (n c : Nat) (bs : List Nat) (a : Nat) (s : Nat) : Prop where
  lt : p < w.heap.size
  c0 : w.cell? ⟨p, 0, none⟩ = some (.slice C n c)
  c1 : w.cell? ⟨p, 1, none⟩ = some (.int .i64 (a : Int))
  c2 : w.cell? ⟨p, 2, none⟩ = some (.int .u64 (s : Int))
  f1 : w.frozen? ⟨p, 1, none⟩ = false
  f2 : w.frozen? ⟨p, 2, none⟩ = false
  rd : 0 < n → ∀ b o, C = some ⟨b, o, none⟩ → b < p
  bs : RdSl 1 RBy w C n bs
theorem Src.below {w w' : World} {p n c a s : Nat} {C : Option Addr} {bs : List Nat} (h : Src w p C n c bs a s) (hb : Below w.heap.size w w') : Src w' p C n c bs a s :=
  ⟨Nat.lt_of_lt_of_le h.lt hb.size, (hb.cell (p := ⟨p, 0, none⟩) h.lt).trans h.c0, (hb.cell (p := ⟨p, 1, none⟩) h.lt).trans h.c1, (hb.cell (p := ⟨p, 2, none⟩) h.lt).trans h.c2, (hb.frozen (p := ⟨p, 1, none⟩) h.lt).trans h.f1, (hb.frozen (p := ⟨p, 2, none⟩) h.lt).trans h.f2, h.rd, h.bs.below RBy.stable hb⟩
/-- a source's next number and its new state, in the world that two stores leave -/
theorem Src.stored {w : World} {p n c a s a' s' : Nat} {C : Option Addr} {bs : List Nat} (h : Src w p C n c bs a s) : Src ((w.setCell ⟨p, 1, none⟩ (.int .i64 (a' : Int))).setCell ⟨p, 2, none⟩ (.int .u64 (s' : Int))) p C n c bs a' s' := by
  obtain ⟨h1, h2, h3, h4, h5, h6, h7, h8⟩ := h
  have hb : Below p w ((w.setCell ⟨p, 1, none⟩ (.int .i64 (a' : Int))).setCell ⟨p, 2, none⟩ (.int .u64 (s' : Int))) := ((Below.refl p w).setCell (p := ⟨p, 1, none⟩) (Nat.le_refl _) _).setCell (p := ⟨p, 2, none⟩) (Nat.le_refl _) _
  refine ⟨by simpa using h1, by go_simp, by go_simp, by go_simp, by go_simp, by go_simp, h7, h8.len, fun hp => ?_⟩
  obtain ⟨b, o, hA, hbl, hc⟩ := h8.cells hp
  have hbp := h7 hp b o hA
  exact ⟨b, o, hA, Nat.lt_of_lt_of_le hbl hb.size, fun k hk => ⟨(hb.cell (p := ⟨b, _, none⟩) hbp).trans (hc k hk).1, (hc k hk).2⟩⟩
theorem Src.belowB {B : Nat} {w w' : World} {p n c a s : Nat} {C : Option Addr} {bs : List Nat} (h : Src w p C n c bs a s) (hp : p < B) (hb : Below B w w') : Src w' p C n c bs a s :=
  ⟨Nat.lt_of_lt_of_le h.lt hb.size, (hb.cell (p := ⟨p, 0, none⟩) hp).trans h.c0, (hb.cell (p := ⟨p, 1, none⟩) hp).trans h.c1, (hb.cell (p := ⟨p, 2, none⟩) hp).trans h.c2, (hb.frozen (p := ⟨p, 1, none⟩) hp).trans h.f1, (hb.frozen (p := ⟨p, 2, none⟩) hp).trans h.f2, h.rd, h.bs.len, fun hn => by
    obtain ⟨b, o, hA, hbl, hc⟩ := h.bs.cells hn
    have hbp := h.rd hn b o hA
    exact ⟨b, o, hA, Nat.lt_of_lt_of_le hbl hb.size, fun k hk => ⟨(hb.cell (p := ⟨b, _, none⟩) (Nat.lt_trans hbp hp)).trans (hc k hk).1, (hc k hk).2⟩⟩⟩
end Go.Proofs.Ytpnahobgmemdjaa
/- Walks: a source's next number. -/


namespace Go.Proofs.Ytpnahobgmemdjaa
open Go.RowKit
attribute [local go_sem] BelowBy.cell BelowBy.cell_drew stillUpon givesUpon

theorem wrapI {n : Int} (h1 : -9000000000000000000 ≤ n) (h2 : n ≤ 9000000000000000000) : IntKind.i64.wrap n = n := by
  simp [IntKind.wrap, IntKind.bits, IntKind.signed]; omega
theorem u64_nat (x : Int) : ∃ k : Nat, IntKind.u64.wrap x = (k : Int) ∧ k < 18446744073709551616 := by
  have h : 0 ≤ IntKind.u64.wrap x ∧ IntKind.u64.wrap x < 18446744073709551616 := by
    simp [IntKind.wrap, IntKind.bits, IntKind.signed]; omega
  exact ⟨(IntKind.u64.wrap x).toNat, by omega, by omega⟩
theorem and255 {s : Nat} (h : s < 18446744073709551616) : ∃ v : Nat, wrap64 (bits .and .u64 ((s : Int) / 1099511627776) 255) = (v : Int) ∧ v < 256 := by
  have h1 : (s : Int) / 1099511627776 = ((s / 1099511627776 : Nat) : Int) := by omega
  have h2 := bits_and_u64_nat (s / 1099511627776) 255 (by omega) (by omega)
  have h3 : (s / 1099511627776) &&& 255 ≤ 255 := Nat.and_le_right
  refine ⟨(s / 1099511627776) &&& 255, ?_, by omega⟩
  rw [h1]
  rw [show (((255 : Nat) : Int)) = (255 : Int) from rfl] at h2
  rw [h2]
  unfold wrap64
  omega
set_option maxRecDepth 100000 in
set_option maxHeartbeats 2000000 in
theorem next_any {p n c a s : Nat} {C : Option Addr} {bs : List Nat} {w : World} (h : Src w p C n c bs a s) (ha : a ≤ 1000000) (hn : n ≤ 1000000) :
    Calls Try.prog 87 #[.pointer (some ⟨p, 0, none⟩)] w fun e w' => ∃ (v s' : Nat), e = .returned (.int .i64 (v : Int)) ∧ v < 256 ∧ Src w' p C n c bs (a + 1) s' ∧ Kp p w w' := by
  have hH := Lib.hid h
  obtain ⟨hlt, c0, c1, c2, f1, f2, hrd, hbs⟩ := h
  have hl := hbs.len
  by_cases han : a < n
  · obtain ⟨v, hv⟩ := hbs.get han
    obtain ⟨b, o, hCe, hb, hc⟩ := hbs.ptr (by omega)
    obtain ⟨d, hv256⟩ := hc a v hv
    simp only [Nat.mul_one] at d
    have hanI : (a : Int) < (n : Int) := by omega
    have ha0 : (0 : Int) ≤ (a : Int) := by omega
    have hle : (a : Int) + 1 ≤ (n : Int) := by omega
    have hw1 : IntKind.i64.wrap ((a : Int) + 1) = (a : Int) + 1 := wrapI (by omega) (by omega)
    have hwv : IntKind.i64.wrap (v : Int) = (v : Int) := wrapI (by omega) (by omega)
    subst hCe
    clear hc hbs
    go_enter Try.func87, Try.ntmps87
    go_wp2
    refine wp_region_ord [(0, .q), (1, .q), (2, .q), (3, .q), (4, .q), (5, .q), (6, .q), (7, .q), (8, .q), (9, .q)] (by kernel_rfl) (by kernel_rfl) ?_
    simp only [pick, List.filterMap_cons, List.filterMap_nil, List.getElem?_toArray, List.getElem?_cons_zero, List.getElem?_cons_succ, Option.map_some]
    repeat (first
      | ((with_reducible refine wpD_p (fun K hK => ?_)); go_simp; refine hK _ ?_; clear hK K)
      | ((with_reducible refine wpD_q (fun K hK => ?_)); go_simp; (first | refine hK _ ?_ | (go_bits; refine hK _ ?_) | (go_bits; go_simp; refine hK _ ?_)); clear hK K)
      | ((with_reducible refine wpD_g (fun K hK => ?_)); go_simp; refine hK _ _ ?_; clear hK K)
      | ((with_reducible refine wpD_g (fun K hK => ?_)); go_simp; refine ⟨Grew.of_alloc _, hK _ _ ?_⟩; clear hK K))
    with_reducible refine wpD_nil ?_
    have k1 : Below w.heap.size w w.drew := bl_dr (bl_refl _)
    have kp1 : Kp p w w.drew := (Kp.refl _ _).drew
    have hH1 := Lib.hid (hH.out.below k1)
    have d1 := (k1.cell (p := ⟨b, o + a, none⟩) hb).trans d
    generalize w.drew = w1 at k1 kp1 hH1 d1 ⊢
    have kp1H := Lib.hid kp1
    have hb1 : b < w1.heap.size := Nat.lt_of_lt_of_le hb k1.size
    clear c0 c1 c2 f1 f2 hlt d k1 kp1
    have e0 := hH1.out.c0
    have e1 := hH1.out.c1
    have e2 := hH1.out.c2
    have e3 := hH1.out.f1
    have e4 := hH1.out.f2
    have e5 := hH1.out.lt
    go_wp2
    refine wp_region_ord [(0, .q), (1, .q), (2, .q), (3, .q), (4, .q), (5, .q), (6, .q), (7, .q), (8, .q), (9, .q), (10, .q), (11, .q)] (by kernel_rfl) (by kernel_rfl) ?_
    simp only [pick, List.filterMap_cons, List.filterMap_nil, List.getElem?_toArray, List.getElem?_cons_zero, List.getElem?_cons_succ, Option.map_some]
    repeat (first
      | ((with_reducible refine wpD_p (fun K hK => ?_)); go_simp; refine hK _ ?_; clear hK K)
      | ((with_reducible refine wpD_q (fun K hK => ?_)); go_simp; (first | refine hK _ ?_ | (go_bits; refine hK _ ?_) | (go_bits; go_simp; refine hK _ ?_)); clear hK K)
      | ((with_reducible refine wpD_g (fun K hK => ?_)); go_simp; refine hK _ _ ?_; clear hK K)
      | ((with_reducible refine wpD_g (fun K hK => ?_)); go_simp; refine ⟨Grew.of_alloc _, hK _ _ ?_⟩; clear hK K))
    with_reducible refine wpD_nil ?_
    have k2 : Below w1.heap.size w1 w1.drew := bl_dr (bl_refl _)
    have kp2 := Lib.hid (show Kp p w w1.drew from kp1H.out.drew)
    have hH2 := Lib.hid (hH1.out.below k2)
    generalize w1.drew = w2 at k2 kp2 hH2 ⊢
    clear e0 e1 e2 e3 e4 e5 d1 k2
    have e0 := hH2.out.c0
    have e1 := hH2.out.c1
    have e2 := hH2.out.c2
    have e3 := hH2.out.f1
    have e4 := hH2.out.f2
    have e5 := hH2.out.lt
    go_wp2
    obtain ⟨s', hs', hs64⟩ := u64_nat (IntKind.u64.wrap (IntKind.u64.wrap ((s : Int) * 6364136223846793005) + (v : Int)) + 1442695040888963407)
    rw [hs']
    have hH3 := hH2.out.stored (a' := a + 1) (s' := s')
    rw [show ((a + 1 : Nat) : Int) = (a : Int) + 1 by omega] at hH3
    have kp3 := (kp2.out.set 1 (.int .i64 ((a : Int) + 1))).set 2 (.int .u64 (s' : Int))
    obtain ⟨w3, hw3⟩ : ∃ w3, ((w2.setCell ⟨p, 1, none⟩ (.int .i64 ((a : Int) + 1))).setCell ⟨p, 2, none⟩ (.int .u64 (s' : Int))) = w3 := ⟨_, rfl⟩
    rw [hw3] at hH3 kp3 ⊢
    have hH3H := Lib.hid hH3
    have kp3H := Lib.hid kp3
    clear e0 e1 e2 e3 e4 e5 kp3 hw3 hs'
    have e0 := hH3.c0
    have e1 := hH3.c1
    rw [show ((a + 1 : Nat) : Int) = (a : Int) + 1 by omega] at e1
    have e2 := hH3.c2
    have e5 := hH3.lt
    clear hH3
    refine wp_region_ord [(0, .q), (1, .q), (2, .q), (3, .q), (4, .q), (5, .q), (6, .q), (7, .q), (8, .q), (9, .q)] (by kernel_rfl) (by kernel_rfl) ?_
    simp only [pick, List.filterMap_cons, List.filterMap_nil, List.getElem?_toArray, List.getElem?_cons_zero, List.getElem?_cons_succ, Option.map_some]
    repeat (first
      | ((with_reducible refine wpD_p (fun K hK => ?_)); go_simp; refine hK _ ?_; clear hK K)
      | ((with_reducible refine wpD_q (fun K hK => ?_)); go_simp; (first | refine hK _ ?_ | (go_bits; refine hK _ ?_) | (go_bits; go_simp; refine hK _ ?_)); clear hK K)
      | ((with_reducible refine wpD_g (fun K hK => ?_)); go_simp; refine hK _ _ ?_; clear hK K)
      | ((with_reducible refine wpD_g (fun K hK => ?_)); go_simp; refine ⟨Grew.of_alloc _, hK _ _ ?_⟩; clear hK K))
    with_reducible refine wpD_nil ?_
    go_wp2
    go_ret
    exact ⟨v, s', rfl, hv256, hH3H.out.below (bl_dr (bl_refl _)), kp3H.out.drew⟩
  · have hanI : ¬ (a : Int) < (n : Int) := by omega
    have hle : ¬ (a : Int) + 1 ≤ (n : Int) := by omega
    have hw1 : IntKind.i64.wrap ((a : Int) + 1) = (a : Int) + 1 := wrapI (by omega) (by omega)
    go_enter Try.func87, Try.ntmps87
    go_wp2
    refine wp_region_ord [(0, .q), (1, .q), (2, .q), (3, .q), (4, .q), (5, .q), (6, .q), (7, .q), (8, .q), (9, .q)] (by kernel_rfl) (by kernel_rfl) ?_
    simp only [pick, List.filterMap_cons, List.filterMap_nil, List.getElem?_toArray, List.getElem?_cons_zero, List.getElem?_cons_succ, Option.map_some]
    repeat (first
      | ((with_reducible refine wpD_p (fun K hK => ?_)); go_simp; refine hK _ ?_; clear hK K)
      | ((with_reducible refine wpD_q (fun K hK => ?_)); go_simp; (first | refine hK _ ?_ | (go_bits; refine hK _ ?_) | (go_bits; go_simp; refine hK _ ?_)); clear hK K)
      | ((with_reducible refine wpD_g (fun K hK => ?_)); go_simp; refine hK _ _ ?_; clear hK K)
      | ((with_reducible refine wpD_g (fun K hK => ?_)); go_simp; refine ⟨Grew.of_alloc _, hK _ _ ?_⟩; clear hK K))
    with_reducible refine wpD_nil ?_
    have k1 : Below w.heap.size w w.drew := bl_dr (bl_refl _)
    have kp2 := Lib.hid (show Kp p w w.drew from (Kp.refl _ _).drew)
    have hH2 := Lib.hid (hH.out.below k1)
    generalize w.drew = w2 at k1 kp2 hH2 ⊢
    clear c0 c1 c2 f1 f2 hlt k1
    have e0 := hH2.out.c0
    have e1 := hH2.out.c1
    have e2 := hH2.out.c2
    have e3 := hH2.out.f1
    have e4 := hH2.out.f2
    have e5 := hH2.out.lt
    go_wp2
    obtain ⟨s', hs', hs64⟩ := u64_nat (IntKind.u64.wrap (IntKind.u64.wrap ((s : Int) * 6364136223846793005)) + 1442695040888963407)
    rw [hs']
    have hH3 := hH2.out.stored (a' := a + 1) (s' := s')
    rw [show ((a + 1 : Nat) : Int) = (a : Int) + 1 by omega] at hH3
    have kp3 := (kp2.out.set 1 (.int .i64 ((a : Int) + 1))).set 2 (.int .u64 (s' : Int))
    obtain ⟨w3, hw3⟩ : ∃ w3, ((w2.setCell ⟨p, 1, none⟩ (.int .i64 ((a : Int) + 1))).setCell ⟨p, 2, none⟩ (.int .u64 (s' : Int))) = w3 := ⟨_, rfl⟩
    rw [hw3] at hH3 kp3 ⊢
    have hH3H := Lib.hid hH3
    have kp3H := Lib.hid kp3
    clear e0 e1 e2 e3 e4 e5 kp3 hw3 hs'
    have e0 := hH3.c0
    have e1 := hH3.c1
    rw [show ((a + 1 : Nat) : Int) = (a : Int) + 1 by omega] at e1
    have e2 := hH3.c2
    have e5 := hH3.lt
    clear hH3
    refine wp_region_ord [(0, .q), (1, .q), (2, .q), (3, .q), (4, .q), (5, .q), (6, .q), (7, .q), (8, .q), (9, .q)] (by kernel_rfl) (by kernel_rfl) ?_
    simp only [pick, List.filterMap_cons, List.filterMap_nil, List.getElem?_toArray, List.getElem?_cons_zero, List.getElem?_cons_succ, Option.map_some]
    repeat (first
      | ((with_reducible refine wpD_p (fun K hK => ?_)); go_simp; refine hK _ ?_; clear hK K)
      | ((with_reducible refine wpD_q (fun K hK => ?_)); go_simp; (first | refine hK _ ?_ | (go_bits; refine hK _ ?_) | (go_bits; go_simp; refine hK _ ?_)); clear hK K)
      | ((with_reducible refine wpD_g (fun K hK => ?_)); go_simp; refine hK _ _ ?_; clear hK K)
      | ((with_reducible refine wpD_g (fun K hK => ?_)); go_simp; refine ⟨Grew.of_alloc _, hK _ _ ?_⟩; clear hK K))
    with_reducible refine wpD_nil ?_
    go_wp2
    obtain ⟨v, hv, hv2⟩ := and255 hs64
    go_ret
    exact ⟨v, s', ret_int hv, hv2, hH3H.out.below (bl_dr (bl_refl _)), kp3H.out.drew⟩
end Go.Proofs.Ytpnahobgmemdjaa
/- Walks: picks of a source; a drawn point and direction. -/

namespace Go.Proofs.Ytpnahobgmemdjaa
open Go.RowKit
attribute [local go_sem] BelowBy.cell BelowBy.cell_drew stillUpon givesUpon

set_option maxHeartbeats 1000000 in
theorem pick_any {p n c a s N : Nat} {C : Option Addr} {bs : List Nat} {w : World} (h : Src w p C n c bs a s) (ha : a ≤ 1000000) (hn : n ≤ 1000000) (h1 : 2 ≤ N) (h2 : N ≤ 200) :
    Calls Try.prog 61 #[.pointer (some ⟨p, 0, none⟩), .int .i64 (N : Int)] w fun e w' => ∃ (v s' : Nat), e = .returned (.int .i64 (v : Int)) ∧ v < N ∧ Src w' p C n c bs (a + 1) s' ∧ Kp p w w' := by
  have hH := Lib.hid h
  clear h
  have hN1 : ¬ (N : Int) ≤ 1 := by omega
  have hN2 : ¬ (200 : Int) < (N : Int) := by omega
  have hN0 : ((N : Int) == 0) = false := by simp; omega
  have hN0' : ¬ (N : Int) = 0 := by omega
  go_enter Try.func61, Try.ntmps61
  go_wp2_with (go_at_call 87; refine (next_any hH.out ha hn).mono ?_; rintro e w1 ⟨v, s', rfl, hv, hS, hb⟩; have hSH := Lib.hid hS; have hbH := Lib.hid hb; clear hS hb)
  go_ret
  have hm : (v : Int).tmod (N : Int) = ((v % N : Nat) : Int) := by rw [Int.tmod_eq_emod_of_nonneg (by omega)]; omega
  exact ⟨v % N, s', by first | exact ret_int hm | (simp [hm]; done), Nat.mod_lt _ (by omega), hSH.out, hbH.out⟩
set_option maxHeartbeats 1000000 in
theorem one_any {p n c a s : Nat} {C : Option Addr} {bs : List Nat} {w : World} (h : Src w p C n c bs a s) (ha : a ≤ 1000000) (hn : n ≤ 1000000) :
    Calls Try.prog 28 #[.pointer (some ⟨p, 0, none⟩), .int .i64 24] w fun e w' => ∃ (v : Bool) (s' : Nat), e = .returned (.bool v) ∧ Src w' p C n c bs (a + 1) s' ∧ Kp p w w' := by
  have hH := Lib.hid h
  clear h
  go_enter Try.func28, Try.ntmps28
  go_wp2_with (go_at_call 61; refine (pick_any (N := 24) hH.out ha hn (by omega) (by omega)).mono ?_; rintro e w1 ⟨v, s', rfl, hv, hS, hb⟩; have hSH := Lib.hid hS; have hbH := Lib.hid hb; clear hS hb)
  go_ret
  exact ⟨_, s', rfl, hSH.out, hbH.out⟩
set_option maxHeartbeats 1000000 in
theorem among_any {p n c a s q : Nat} {C : Option Addr} {bs : List Nat} {L : List Int} {w : World} (h : Src w p C n c bs a s) (ha : a ≤ 1000000) (hn : n ≤ 1000000) (hL : L.length = 6) (hq : q < w.heap.size) (hqp : q ≠ p) (hc : ∀ i v, L[i]? = some v → w.cell? ⟨q, i, none⟩ = some (.int .i64 v)) :
    Calls Try.prog 62 #[.pointer (some ⟨p, 0, none⟩), .slice (some ⟨q, 0, none⟩) 6 6] w fun e w' => ∃ (v : Int) (s' : Nat), e = .returned (.int .i64 v) ∧ v ∈ L ∧ Src w' p C n c bs (a + 1) s' ∧ Kp p w w' := by
  have hH := Lib.hid h
  have hcH := Lib.hid hc
  clear h hc
  go_enter Try.func62, Try.ntmps62
  go_wp2_with fail
  refine (pick_any (N := 6) hH.out ha hn (by omega) (by omega)).mono ?_
  rintro e w1 ⟨v, s', rfl, hv, hS, hb⟩
  have hSH := Lib.hid hS
  have hbH := Lib.hid hb
  obtain ⟨x, hx⟩ : ∃ x, L[v]? = some x := ⟨_, List.getElem?_eq_getElem (by omega)⟩
  have hcx := (World.cell?_of_block (a := ⟨q, v, none⟩) (hb.keep q hqp hq)).trans (hcH.out v x hx)
  have hv0 : (0 : Int) ≤ (v : Int) := by omega
  have hv6 : (v : Int) < 6 := by omega
  have hq1 : q < w1.heap.size := Nat.lt_of_lt_of_le hq hb.below.size
  have hxm := Lib.hid (List.mem_of_getElem? hx)
  clear hS hb hx
  go_wp2
  go_ret
  exact ⟨x, s', rfl, hxm.out, hSH.out, hbH.out⟩
end Go.Proofs.Ytpnahobgmemdjaa
/- Walks: a drawn point and direction. -/

namespace Go.Proofs.Ytpnahobgmemdjaa
open Go.RowKit
attribute [local go_sem] BelowBy.cell BelowBy.cell_drew stillUpon givesUpon KpBy.cell KpBy.cell_drew

theorem f6big_at {C : Option Addr} {n c : Nat} {v : Bool} (w : World) (h : decide (4096 < n) = v) :
    Calls Try.prog 5 #[.slice C n c] w fun e w' => e = .returned (.bool v) ∧ w = w' := by
  cases v
  · have h1 : ¬ (4096 : Int) < (n : Int) := by have := of_decide_eq_false h; omega
    go_enter Try.func5, Try.ntmps5
    go_wp2
    go_ret
    first | exact ⟨rfl, rfl⟩ | exact ⟨ret_bool (by simp; omega), rfl⟩
  · have h1 : (4096 : Int) < (n : Int) := by have := of_decide_eq_true h; omega
    go_enter Try.func5, Try.ntmps5
    go_wp2
    go_ret
    first | exact ⟨rfl, rfl⟩ | exact ⟨ret_bool (by simp; omega), rfl⟩
theorem l00From_any {C : Option Addr} {n c : Nat} {bs : List Nat} (w : World) (h : RdSl 1 RBy w C n bs) :
    Calls Try.prog 25 #[.slice C n c] w fun e w' => ∃ p, e = .returned (.pointer (some ⟨p, 0, none⟩)) ∧ w.heap.size ≤ p ∧ Src w' p C n c bs 0 0 ∧ Below w.heap.size w w' := by
  have hH := Lib.hid h
  clear h
  go_enter Try.func25, Try.ntmps25
  go_wp2
  go_ret
  refine ⟨_, rfl, ?_, ⟨?_, ?_, ?_, ?_, ?_, ?_, ?_, ?_⟩, ?_⟩
  · go_simp
  · go_simp
  · go_simp
  · go_simp
  · go_simp
  · go_simp
  · go_simp
  · intro hp b o hC
    obtain ⟨b', o', hA, hbl, hc⟩ := hH.out.cells hp
    rw [hC] at hA
    cases hA
    go_simp
  · exact hH.out.below RBy.stable (by exact bel_)
  · exact bel_
end Go.Proofs.Ytpnahobgmemdjaa
