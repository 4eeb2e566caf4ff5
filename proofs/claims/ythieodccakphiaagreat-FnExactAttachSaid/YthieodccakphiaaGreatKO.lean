import Derived.Test.YthieodccakphiaaGreatW1
import Derived.Test.YthieodccakphiaaGreatBase2
import Derived.Test.YthieodccakphiaaGreatHTo
import Derived.Test.YthieodccakphiaaGreatKH
import Derived.Test.YthieodccakphiaaGreatOrd
import Derived.OneCell
import Derived.Test.YthieodccakphiaaGreatKA
set_option linter.unusedSimpArgs false
set_option linter.unusedVariables false
/- Walks: the harness' counting. -/


namespace Go.Proofs.YthieodccakphiaaGreat
open Go.RowKit
attribute [local go_sem] BelowBy.cell BelowBy.cell_drew stillUpon givesUpon

theorem szGlue_any (s : ByteArray) (t left : Int) (w : World) (h0 : 0 ≤ left) (h1 : left ≤ 1048576) (hs : s.size ≤ 9223372036854775807) :
    Calls Tryz.prog 47 #[.agg #[.string s, .int .i64 t], .int .i64 left] w (SzRes w left ((s.size : Int) ≤ left)) := by
  by_cases h : (s.size : Int) ≤ left
  · go_enter Tryz.func47, Tryz.ntmps47
    go_wp2
    go_ret
    exact ⟨_, rfl, .inr ⟨by omega, by omega, h⟩, bl_al (bl_refl _) _⟩
  · go_enter Tryz.func47, Tryz.ntmps47
    go_wp2
    go_ret
    exact ⟨_, rfl, .inl rfl, bl_al (bl_refl _) _⟩
theorem szInt64S_any (A : Option Addr) (n c : Nat) (left : Int) (w : World) (h0 : 0 ≤ left) (h1 : left ≤ 1048576) (hs : n ≤ 9223372036854775807) :
    Calls Tryz.prog 87 #[.slice A n c, .int .i64 left] w (SzRes w left ((n : Int) ≤ left)) := by
  by_cases h : (n : Int) ≤ left
  · go_enter Tryz.func87, Tryz.ntmps87
    go_wp2
    go_ret
    exact ⟨_, rfl, .inr ⟨by omega, by omega, h⟩, bl_refl _⟩
  · go_enter Tryz.func87, Tryz.ntmps87
    go_wp2
    go_ret
    exact ⟨_, rfl, .inl rfl, bl_refl _⟩
theorem szPlacedS_any (A : Option Addr) (n c : Nat) (left : Int) (w : World) (h0 : 0 ≤ left) (h1 : left ≤ 1048576) (hs : n ≤ 9223372036854775807) :
    Calls Tryz.prog 24 #[.slice A n c, .int .i64 left] w (SzRes w left ((n : Int) ≤ left)) := by
  by_cases h : (n : Int) ≤ left
  · go_enter Tryz.func24, Tryz.ntmps24
    go_wp2
    go_ret
    exact ⟨_, rfl, .inr ⟨by omega, by omega, h⟩, bl_refl _⟩
  · go_enter Tryz.func24, Tryz.ntmps24
    go_wp2
    go_ret
    exact ⟨_, rfl, .inl rfl, bl_refl _⟩
theorem szAssembly_any (A : Option Addr) (n c : Nat) (left : Int) (w : World) (h0 : 0 ≤ left) (h1 : left ≤ 1048576) (hs : n ≤ 9223372036854775807) :
    Calls Tryz.prog 6 #[.agg #[.slice A n c], .int .i64 left] w (SzRes w left ((n : Int) ≤ left)) := by
  go_enter Tryz.func6, Tryz.ntmps6
  go_wp2_with (go_at_call 24; refine (szPlacedS_any _ _ _ _ _ h0 h1 hs).mono ?_; rintro e w1 ⟨r, rfl, (rfl | ⟨hr0, hr1, hr2⟩), hb1⟩)
  · go_ret
    exact ⟨_, rfl, .inl rfl, bl_tr (bl_al (bl_refl _) _) hb1⟩
  · go_wp2
    go_ret
    exact ⟨_, rfl, .inr ⟨hr0, hr1, hr2⟩, bl_tr (bl_al (bl_refl _) _) hb1⟩
theorem szTile_any (s : ByteArray) (A : Option Addr) (n c : Nat) (left : Int) (w : World) (h0 : 0 ≤ left) (h1 : left ≤ 1048576) (hs : s.size ≤ 9223372036854775807) (hn : n ≤ 9223372036854775807) :
    Calls Tryz.prog 48 #[.agg #[.string s, .slice A n c], .int .i64 left] w (SzRes w left ((s.size : Int) ≤ left ∧ (n : Int) ≤ left)) := by
  by_cases h : (s.size : Int) ≤ left
  · go_enter Tryz.func48, Tryz.ntmps48
    go_wp2_with (go_at_call 87; refine (szInt64S_any _ _ _ _ _ (by omega) (by omega) hn).mono ?_; rintro e w1 ⟨r, rfl, (rfl | ⟨hr0, hr1, hr2⟩), hb1⟩)
    · go_ret
      exact ⟨_, rfl, .inl rfl, bl_tr (bl_al (bl_refl _) _) hb1⟩
    · go_wp2
      go_ret
      exact ⟨_, rfl, .inr ⟨hr0, by omega, h, by omega⟩, bl_tr (bl_al (bl_refl _) _) hb1⟩
  · go_enter Tryz.func48, Tryz.ntmps48
    go_wp2
    go_ret
    exact ⟨_, rfl, .inl rfl, bl_al (bl_refl _) _⟩

set_option maxHeartbeats 1000000 in
theorem szGlueS_any (A : Option Addr) (n c : Nat) (xs : List Gl) (left : Int) (w : World) (h : RdSl 2 RGl w A n xs) (h0 : 0 ≤ left) (h1 : left ≤ 1048576) (hn : n ≤ 9223372036854775807) (hx : ∀ e ∈ xs, e.name.size ≤ 9223372036854775807) :
    Calls Tryz.prog 22 #[.slice A n c, .int .i64 left] w (SzRes w left ((n : Int) ≤ left ∧ ∀ e ∈ xs, (e.name.size : Int) ≤ left)) := by
  by_cases hle : (n : Int) ≤ left
  · go_enter Tryz.func22, Tryz.ntmps22
    go_wp2
    go_loopg [1, 5] n (fun g l i wr => ∃ (k : Nat) (L : Int), k + g = n ∧ i = .int .i64 k ∧ l = .int .i64 L ∧ 0 ≤ L ∧ L ≤ left ∧ (∀ j e, j < k → xs[j]? = some e → (e.name.size : Int) ≤ left) ∧ Below w.heap.size w wr)
    case atStart => exact ⟨0, _, by omega, rfl, rfl, by omega, by omega, fun j e hj => by omega, Below.refl _ _⟩
    case round =>
      obtain ⟨k, L, hk, rfl, rfl, hL0, hL1, hok, hbw⟩ := hrel
      have r1 := h.below RGl.stable hbw
      by_cases hlt : k < n
      · obtain ⟨b, o, rfl, hb, hc⟩ := r1.ptr (by omega)
        obtain ⟨e, he⟩ := h.get hlt
        have HE := Lib.hid he
        obtain ⟨c1, c1b⟩ := hc k e he
        clear hc he r1
        go_wp2_with (go_at_call 47; refine (szGlue_any _ _ _ _ hL0 (by omega) (hx _ (List.mem_of_getElem? HE.out))).mono ?_; rintro e' w1 ⟨r, rfl, (rfl | ⟨hr0, hr1, hr2⟩), hb1⟩)
        · go_ret
          exact ⟨_, rfl, .inl rfl, bl_tr hbw hb1⟩
        · go_wp2
          go_roundg (n - (k + 1))
          case measure => omega
          case rel => exact ⟨k + 1, _, by omega, by go_num, rfl, by omega, by omega, fun j e' hj he' => (by
            rcases Nat.lt_succ_iff_lt_or_eq.1 hj with hj | rfl
            · exact hok j e' hj he'
            · obtain rfl := Option.some.inj (HE.out.symm.trans he'); omega), bl_tr hbw hb1⟩
      · obtain rfl : k = n := by omega
        go_wp2
        go_ret
        exact ⟨_, rfl, .inr ⟨hL0, hL1, hle, fun e he => by
          obtain ⟨j, hj, rfl⟩ := List.mem_iff_getElem.1 he
          exact hok j _ (by have := h.len; omega) (List.getElem?_eq_getElem hj)⟩, hbw⟩
  · go_enter Tryz.func22, Tryz.ntmps22
    go_wp2
    go_ret
    exact ⟨_, rfl, .inl rfl, bl_refl _⟩

set_option maxHeartbeats 1000000 in
theorem szTileS_any (A : Option Addr) (n c : Nat) (xs : List Ti) (left : Int) (w : World) (h : RdSl 2 RTi w A n xs) (h0 : 0 ≤ left) (h1 : left ≤ 1048576) (hn : n ≤ 9223372036854775807) (hx : ∀ e ∈ xs, e.name.size ≤ 9223372036854775807 ∧ e.sides.length ≤ 9223372036854775807) :
    Calls Tryz.prog 23 #[.slice A n c, .int .i64 left] w (SzRes w left ((n : Int) ≤ left ∧ ∀ e ∈ xs, (e.name.size : Int) ≤ left ∧ (e.sides.length : Int) ≤ left)) := by
  by_cases hle : (n : Int) ≤ left
  · go_enter Tryz.func23, Tryz.ntmps23
    go_wp2
    go_loopg [1, 5] n (fun g l i wr => ∃ (k : Nat) (L : Int), k + g = n ∧ i = .int .i64 k ∧ l = .int .i64 L ∧ 0 ≤ L ∧ L ≤ left ∧ (∀ j e, j < k → xs[j]? = some e → (e.name.size : Int) ≤ left ∧ (e.sides.length : Int) ≤ left) ∧ Below w.heap.size w wr)
    case atStart => exact ⟨0, _, by omega, rfl, rfl, by omega, by omega, fun j e hj => by omega, Below.refl _ _⟩
    case round =>
      obtain ⟨k, L, hk, rfl, rfl, hL0, hL1, hok, hbw⟩ := hrel
      have r1 := h.below RTi.stable hbw
      by_cases hlt : k < n
      · obtain ⟨b, o, rfl, hb, hc⟩ := r1.ptr (by omega)
        obtain ⟨e, he⟩ := h.get hlt
        have HE := Lib.hid he
        obtain ⟨c1, A1, n1, d1, c1b, hs1⟩ := hc k e he
        have HL := Lib.hid hs1.len
        have hn1 : n1 ≤ 9223372036854775807 := by rw [← hs1.len]; exact (hx e (List.mem_of_getElem? he)).2
        clear hs1
        clear hc he r1
        go_wp2_with (go_at_call 48; refine (szTile_any _ _ _ _ _ _ hL0 (by omega) (hx _ (List.mem_of_getElem? HE.out)).1 hn1).mono ?_; rintro e' w1 ⟨r, rfl, (rfl | ⟨hr0, hr1, hr2⟩), hb1⟩)
        · go_ret
          exact ⟨_, rfl, .inl rfl, bl_tr hbw hb1⟩
        · go_wp2
          go_roundg (n - (k + 1))
          case measure => omega
          case rel => exact ⟨k + 1, _, by omega, by go_num, rfl, by omega, by omega, fun j e' hj he' => (by
            rcases Nat.lt_succ_iff_lt_or_eq.1 hj with hj | rfl
            · exact hok j e' hj he'
            · obtain rfl := Option.some.inj (HE.out.symm.trans he'); rw [HL.out]; omega), bl_tr hbw hb1⟩
      · obtain rfl : k = n := by omega
        go_wp2
        go_ret
        exact ⟨_, rfl, .inr ⟨hL0, hL1, hle, fun e he => by
          obtain ⟨j, hj, rfl⟩ := List.mem_iff_getElem.1 he
          exact hok j _ (by have := h.len; omega) (List.getElem?_eq_getElem hj)⟩, hbw⟩
  · go_enter Tryz.func23, Tryz.ntmps23
    go_wp2
    go_ret
    exact ⟨_, rfl, .inl rfl, bl_refl _⟩

theorem szTileSet_any (A B : Option Addr) (n c m d : Nat) (gs : List Gl) (ts : List Ti) (left : Int) (w : World) (h : RdSl 2 RGl w A n gs) (k : RdSl 2 RTi w B m ts) (h0 : 0 ≤ left) (h1 : left ≤ 1048576) (hn : n ≤ 9223372036854775807) (hm : m ≤ 9223372036854775807)
    (hx : ∀ e ∈ gs, e.name.size ≤ 9223372036854775807) (hy : ∀ e ∈ ts, e.name.size ≤ 9223372036854775807 ∧ e.sides.length ≤ 9223372036854775807) :
    Calls Tryz.prog 5 #[.agg #[.slice A n c, .slice B m d], .int .i64 left] w (SzRes w left (((n : Int) ≤ left ∧ ∀ e ∈ gs, (e.name.size : Int) ≤ left) ∧ ((m : Int) ≤ left ∧ ∀ e ∈ ts, (e.name.size : Int) ≤ left ∧ (e.sides.length : Int) ≤ left))) := by
  have hb0 : ∀ o1, Below w.heap.size w (w.alloc o1) := fun o1 => bl_al (bl_refl _) _
  go_enter Tryz.func5, Tryz.ntmps5
  go_wp2_with (go_at_call 22; refine (szGlueS_any _ _ _ gs _ _ (h.below RGl.stable (hb0 _)) h0 h1 hn hx).mono ?_; rintro e w1 ⟨r, rfl, (rfl | ⟨hr0, hr1, hr2⟩), hb1⟩; all_goals (obtain ⟨cb1, fb1, sb1, tb1⟩ := bcell hb1; have bb1 := sb1 w.heap.size (by go_simp)))
  · go_ret
    exact ⟨_, rfl, .inl rfl, bl_tr (bl_al (bl_refl _) _) hb1⟩
  · have HR := Lib.hid hr2
    clear hr2
    go_wp2_with (go_at_call 23; refine (szTileS_any _ _ _ ts _ _ (k.below RTi.stable (bl_tr (hb0 _) hb1)) hr0 (by omega) hm hy).mono ?_; rintro e w2 ⟨r2, rfl, (rfl | ⟨hq0, hq1, hq2⟩), hb2⟩)
    · go_ret
      exact ⟨_, rfl, .inl rfl, bl_tr (bl_tr (bl_al (bl_refl _) _) hb1) hb2⟩
    · have HQ := Lib.hid hq2
      clear hq2
      go_wp2
      go_ret
      exact ⟨_, rfl, .inr ⟨hq0, by omega, HR.out, by have := HQ.out.1; omega, fun e he => by have := HQ.out.2 e he; omega⟩, bl_tr (bl_tr (bl_al (bl_refl _) _) hb1) hb2⟩
end Go.Proofs.YthieodccakphiaaGreat
/- Walks: the harness' comparisons, where both sides read as the same list. -/


namespace Go.Proofs.YthieodccakphiaaGreat
open Go.RowKit
attribute [local go_sem] BelowBy.cell BelowBy.cell_drew stillUpon givesUpon

theorem eqGlue_same (s : ByteArray) (t : Int) (w : World) :
    Calls Tryz.prog 66 #[.agg #[.string s, .int .i64 t], .agg #[.string s, .int .i64 t]] w fun e w' => e = .returned (.bool true) ∧ Below w.heap.size w w' := by
  go_enter Tryz.func66, Tryz.ntmps66
  go_wp2
  go_ret
  exact ⟨rfl, bl_al (bl_al (bl_refl _) _) _⟩
theorem eqPoint_same (x y : Int) (w : World) :
    Calls Tryz.prog 110 #[.agg #[.int .i64 x, .int .i64 y], .agg #[.int .i64 x, .int .i64 y]] w fun e w' => e = .returned (.bool true) ∧ Below w.heap.size w w' := by
  go_enter Tryz.func110, Tryz.ntmps110
  go_wp2
  go_ret
  exact ⟨rfl, bl_al (bl_al (bl_refl _) _) _⟩
theorem eqPlaced_same (x y t : Int) (w : World) :
    Calls Tryz.prog 68 #[.agg #[.int .i64 x, .int .i64 y, .int .i64 t], .agg #[.int .i64 x, .int .i64 y, .int .i64 t]] w fun e w' => e = .returned (.bool true) ∧ Below w.heap.size w w' := by
  
  go_enter Tryz.func68, Tryz.ntmps68
  go_wp2_with (go_at_call 110; refine (eqPoint_same _ _ _).mono ?_; rintro e w1 ⟨rfl, hb1⟩; obtain ⟨chb1, fhb1, shb1, thb1⟩ := bcell hb1; (try have bhb10 := shb1 (w.heap.size) (by go_simp)); (try have bhb11 := shb1 (w.heap.size + 1) (by go_simp)))
  go_ret
  refine ⟨rfl, ?_⟩
  exact bel_

set_option maxHeartbeats 1000000 in
theorem eqInt64S_same (A B : Option Addr) (n c d : Nat) (xs : List Int) (w : World) (h1 : RdSl 1 RInt w A n xs) (h2 : RdSl 1 RInt w B n xs) (hn : n ≤ 1073741824) :
    Calls Tryz.prog 109 #[.slice A n c, .slice B n d] w fun e w' => e = .returned (.bool true) ∧ Below w.heap.size w w' := by
  
  go_enter Tryz.func109, Tryz.ntmps109
  go_wp2
  go_loopg [5] n (fun g i wr => ∃ k : Nat, k + g = n ∧ i = .int .i64 k ∧ Below w.heap.size w wr)
  case atStart => exact ⟨0, by omega, rfl, Below.refl _ _⟩
  case round =>
    obtain ⟨k, hk, rfl, hbw⟩ := hrel
    have r1 := h1.below RInt.stable hbw
    have r2 := h2.below RInt.stable hbw
    by_cases hlt : k < n
    · obtain ⟨b, o, rfl, hb, hc⟩ := r1.ptr (by omega)
      obtain ⟨b2, o2, rfl, hb2, hc2⟩ := r2.ptr (by omega)
      obtain ⟨e, he⟩ := h1.get hlt
      have c1 := hc k e he
      have c2 := hc2 k e he
      unfold RInt at c1 c2
      simp only [Nat.mul_one] at c1 c2
      clear hc hc2 he r1 r2
      go_wp2
      refine wp_region_ord [(0, .q), (1, .q), (2, .q), (3, .q), (4, .q), (5, .q), (6, .q), (7, .q), (8, .q)] (by kernel_rfl) (by kernel_rfl) ?_
      simp only [pick, List.filterMap_cons, List.filterMap_nil, List.getElem?_toArray, List.getElem?_cons_zero, List.getElem?_cons_succ, Option.map_some]
      repeat (first
        | ((with_reducible refine wpD_p (fun K hK => ?_)); go_simp; refine hK _ ?_; clear hK K)
        | ((with_reducible refine wpD_q (fun K hK => ?_)); go_simp; (first | refine hK _ ?_ | (go_bits; refine hK _ ?_) | (go_bits; go_simp; refine hK _ ?_)); clear hK K)
        | ((with_reducible refine wpD_g (fun K hK => ?_)); go_simp; refine hK _ _ ?_; clear hK K)
        | ((with_reducible refine wpD_g (fun K hK => ?_)); go_simp; refine ⟨Grew.of_alloc _, hK _ _ ?_⟩; clear hK K))
      with_reducible refine wpD_nil ?_
      go_wp2
      go_roundg (n - (k + 1))
      case measure => omega
      case rel => exact ⟨k + 1, by omega, by go_num, (by exact bel_)⟩
    · obtain rfl : k = n := by omega
      go_wp2
      go_ret
      exact ⟨rfl, hbw⟩

set_option maxHeartbeats 1000000 in
theorem eqGlueS_same (A B : Option Addr) (n c d : Nat) (xs : List Gl) (w : World) (h1 : RdSl 2 RGl w A n xs) (h2 : RdSl 2 RGl w B n xs) (hn : n ≤ 1073741824) :
    Calls Tryz.prog 32 #[.slice A n c, .slice B n d] w fun e w' => e = .returned (.bool true) ∧ Below w.heap.size w w' := by
  
  go_enter Tryz.func32, Tryz.ntmps32
  go_wp2
  go_loopg [5] n (fun g i wr => ∃ k : Nat, k + g = n ∧ i = .int .i64 k ∧ Below w.heap.size w wr)
  case atStart => exact ⟨0, by omega, rfl, Below.refl _ _⟩
  case round =>
    obtain ⟨k, hk, rfl, hbw⟩ := hrel
    have r1 := h1.below RGl.stable hbw
    have r2 := h2.below RGl.stable hbw
    by_cases hlt : k < n
    · obtain ⟨b, o, rfl, hb, hc⟩ := r1.ptr (by omega)
      obtain ⟨b2, o2, rfl, hb2, hc2⟩ := r2.ptr (by omega)
      obtain ⟨e, he⟩ := h1.get hlt
      obtain ⟨c1, c1b⟩ := hc k e he
      obtain ⟨c2, c2b⟩ := hc2 k e he
      clear hc hc2 he r1 r2
      go_wp2
      refine wp_region_ord [(0, .q), (1, .q), (2, .q), (3, .q), (4, .q), (5, .q), (6, .q), (7, .q), (8, .g), (9, .q)] (by kernel_rfl) (by kernel_rfl) ?_
      simp only [pick, List.filterMap_cons, List.filterMap_nil, List.getElem?_toArray, List.getElem?_cons_zero, List.getElem?_cons_succ, Option.map_some]
      repeat (first
        | ((with_reducible refine wpD_p (fun K hK => ?_)); go_simp; refine hK _ ?_; clear hK K)
        | ((with_reducible refine wpD_q (fun K hK => ?_)); go_simp; (first | refine hK _ ?_ | (go_bits; refine hK _ ?_) | (go_bits; go_simp; refine hK _ ?_)); clear hK K)
        | ((with_reducible refine wpD_g (fun K hK => ?_)); go_simp; refine hK _ _ ?_; clear hK K)
        | ((with_reducible refine wpD_g (fun K hK => ?_)); go_simp; refine ⟨Grew.of_alloc _, hK _ _ ?_⟩; clear hK K)
        | ((with_reducible refine wpD_g (fun K hK => ?_)); go_simp; go_at_call 66; refine (eqGlue_same _ _ _).mono ?_; rintro e w1 ⟨rfl, hb1⟩; refine ⟨_, rfl, hb1, hK _ _ ?_⟩; clear hK K; obtain ⟨chb1, fhb1, shb1, thb1⟩ := bcell hb1; (try have bhb10 := shb1 (b) (by go_simp)); (try have bhb11 := shb1 (b2) (by go_simp))))
      with_reducible refine wpD_nil ?_
      go_wp2
      go_roundg (n - (k + 1))
      case measure => omega
      case rel => exact ⟨k + 1, by omega, by go_num, (by exact bel_)⟩
    · obtain rfl : k = n := by omega
      go_wp2
      go_ret
      exact ⟨rfl, hbw⟩

set_option maxHeartbeats 1000000 in
theorem eqPlacedS_same (A B : Option Addr) (n c d : Nat) (xs : List Pl) (w : World) (h1 : RdSl 3 RPl w A n xs) (h2 : RdSl 3 RPl w B n xs) (hn : n ≤ 1073741824) :
    Calls Tryz.prog 34 #[.slice A n c, .slice B n d] w fun e w' => e = .returned (.bool true) ∧ Below w.heap.size w w' := by
  
  go_enter Tryz.func34, Tryz.ntmps34
  go_wp2
  go_loopg [5] n (fun g i wr => ∃ k : Nat, k + g = n ∧ i = .int .i64 k ∧ Below w.heap.size w wr)
  case atStart => exact ⟨0, by omega, rfl, Below.refl _ _⟩
  case round =>
    obtain ⟨k, hk, rfl, hbw⟩ := hrel
    have r1 := h1.below RPl.stable hbw
    have r2 := h2.below RPl.stable hbw
    by_cases hlt : k < n
    · obtain ⟨b, o, rfl, hb, hc⟩ := r1.ptr (by omega)
      obtain ⟨b2, o2, rfl, hb2, hc2⟩ := r2.ptr (by omega)
      obtain ⟨e, he⟩ := h1.get hlt
      obtain ⟨c1, c1b, c1c⟩ := hc k e he
      obtain ⟨c2, c2b, c2c⟩ := hc2 k e he
      clear hc hc2 he r1 r2
      go_wp2
      refine wp_region_ord [(0, .q), (1, .q), (2, .q), (3, .q), (4, .q), (5, .q), (6, .q), (7, .q), (8, .g), (9, .q)] (by kernel_rfl) (by kernel_rfl) ?_
      simp only [pick, List.filterMap_cons, List.filterMap_nil, List.getElem?_toArray, List.getElem?_cons_zero, List.getElem?_cons_succ, Option.map_some]
      repeat (first
        | ((with_reducible refine wpD_p (fun K hK => ?_)); go_simp; refine hK _ ?_; clear hK K)
        | ((with_reducible refine wpD_q (fun K hK => ?_)); go_simp; (first | refine hK _ ?_ | (go_bits; refine hK _ ?_) | (go_bits; go_simp; refine hK _ ?_)); clear hK K)
        | ((with_reducible refine wpD_g (fun K hK => ?_)); go_simp; refine hK _ _ ?_; clear hK K)
        | ((with_reducible refine wpD_g (fun K hK => ?_)); go_simp; refine ⟨Grew.of_alloc _, hK _ _ ?_⟩; clear hK K)
        | ((with_reducible refine wpD_g (fun K hK => ?_)); go_simp; go_at_call 68; refine (eqPlaced_same _ _ _ _).mono ?_; rintro e w1 ⟨rfl, hb1⟩; refine ⟨_, rfl, hb1, hK _ _ ?_⟩; clear hK K; obtain ⟨chb1, fhb1, shb1, thb1⟩ := bcell hb1; (try have bhb10 := shb1 (b) (by go_simp)); (try have bhb11 := shb1 (b2) (by go_simp))))
      with_reducible refine wpD_nil ?_
      go_wp2
      go_roundg (n - (k + 1))
      case measure => omega
      case rel => exact ⟨k + 1, by omega, by go_num, (by exact bel_)⟩
    · obtain rfl : k = n := by omega
      go_wp2
      go_ret
      exact ⟨rfl, hbw⟩

set_option maxHeartbeats 1000000 in
theorem eqTile_same (s : ByteArray) (A B : Option Addr) (n c d : Nat) (xs : List Int) (w : World) (h1 : RdSl 1 RInt w A n xs) (h2 : RdSl 1 RInt w B n xs) (hn : n ≤ 1073741824) :
    Calls Tryz.prog 67 #[.agg #[.string s, .slice A n c], .agg #[.string s, .slice B n d]] w fun e w' => e = .returned (.bool true) ∧ Below w.heap.size w w' := by
  have hb0 : ∀ o1 o2, Below w.heap.size w ((w.alloc o1).alloc o2) := fun o1 o2 => bl_al (bl_al (bl_refl _) _) _
  
  go_enter Tryz.func67, Tryz.ntmps67
  go_wp2_with (go_at_call 109; refine (eqInt64S_same _ _ _ _ _ xs _ (h1.below RInt.stable (hb0 _ _)) (h2.below RInt.stable (hb0 _ _)) hn).mono ?_; rintro e w1 ⟨rfl, hb1⟩; obtain ⟨chb1, fhb1, shb1, thb1⟩ := bcell hb1; (try have bhb10 := shb1 (w.heap.size) (by go_simp)); (try have bhb11 := shb1 (w.heap.size + 1) (by go_simp)))
  go_ret
  refine ⟨rfl, ?_⟩
  exact bel_

set_option maxHeartbeats 1000000 in
theorem eqTileS_same (A B : Option Addr) (n c d : Nat) (xs : List Ti) (w : World) (h1 : RdSl 2 RTi w A n xs) (h2 : RdSl 2 RTi w B n xs) (hn : n ≤ 1073741824) (hx : ∀ e ∈ xs, e.sides.length ≤ 1073741824) :
    Calls Tryz.prog 33 #[.slice A n c, .slice B n d] w fun e w' => e = .returned (.bool true) ∧ Below w.heap.size w w' := by
  
  go_enter Tryz.func33, Tryz.ntmps33
  go_wp2
  go_loopg [5] n (fun g i wr => ∃ k : Nat, k + g = n ∧ i = .int .i64 k ∧ Below w.heap.size w wr)
  case atStart => exact ⟨0, by omega, rfl, Below.refl _ _⟩
  case round =>
    obtain ⟨k, hk, rfl, hbw⟩ := hrel
    have r1 := h1.below RTi.stable hbw
    have r2 := h2.below RTi.stable hbw
    by_cases hlt : k < n
    · obtain ⟨b, o, rfl, hb, hc⟩ := r1.ptr (by omega)
      obtain ⟨b2, o2, rfl, hb2, hc2⟩ := r2.ptr (by omega)
      obtain ⟨e, he⟩ := h1.get hlt
      obtain ⟨c1, A1, n1, d1, c1b, hs1⟩ := hc k e he
      obtain ⟨c2, A2, n2, d2, c2b, hs2⟩ := hc2 k e he
      obtain rfl : n1 = n2 := hs1.len.symm.trans hs2.len
      have hm : n1 ≤ 1073741824 := by rw [← hs1.len]; exact hx e (List.mem_of_getElem? he)
      have hs1 := hs1.below RInt.stable (bl_dr (bl_refl _))
      have hs2 := hs2.below RInt.stable (bl_dr (bl_refl _))
      clear hc hc2 he r1 r2
      go_wp2
      refine wp_region_ord [(0, .q), (1, .q), (2, .q), (3, .q), (4, .q), (5, .q), (6, .q), (7, .q), (8, .g), (9, .q)] (by kernel_rfl) (by kernel_rfl) ?_
      simp only [pick, List.filterMap_cons, List.filterMap_nil, List.getElem?_toArray, List.getElem?_cons_zero, List.getElem?_cons_succ, Option.map_some]
      repeat (first
        | ((with_reducible refine wpD_p (fun K hK => ?_)); go_simp; refine hK _ ?_; clear hK K)
        | ((with_reducible refine wpD_q (fun K hK => ?_)); go_simp; (first | refine hK _ ?_ | (go_bits; refine hK _ ?_) | (go_bits; go_simp; refine hK _ ?_)); clear hK K)
        | ((with_reducible refine wpD_g (fun K hK => ?_)); go_simp; refine hK _ _ ?_; clear hK K)
        | ((with_reducible refine wpD_g (fun K hK => ?_)); go_simp; refine ⟨Grew.of_alloc _, hK _ _ ?_⟩; clear hK K)
        | ((with_reducible refine wpD_g (fun K hK => ?_)); go_simp; go_at_call 67; refine (eqTile_same _ _ _ _ _ _ _ _ hs1 hs2 hm).mono ?_; rintro e w1 ⟨rfl, hb1⟩; refine ⟨_, rfl, hb1, hK _ _ ?_⟩; clear hK K; obtain ⟨chb1, fhb1, shb1, thb1⟩ := bcell hb1; (try have bhb10 := shb1 (b) (by go_simp)); (try have bhb11 := shb1 (b2) (by go_simp))))
      with_reducible refine wpD_nil ?_
      go_wp2
      go_roundg (n - (k + 1))
      case measure => omega
      case rel => exact ⟨k + 1, by omega, by go_num, (by exact bel_)⟩
    · obtain rfl : k = n := by omega
      go_wp2
      go_ret
      exact ⟨rfl, hbw⟩

theorem eqTileSet_same (A B A2 B2 : Option Addr) (n c d m c2 d2 : Nat) (gs : List Gl) (ts : List Ti) (w : World) (h1 : RdSl 2 RGl w A n gs) (h2 : RdSl 2 RGl w B n gs) (k1 : RdSl 2 RTi w A2 m ts) (k2 : RdSl 2 RTi w B2 m ts)
    (hn : n ≤ 1073741824) (hm : m ≤ 1073741824) (hx : ∀ e ∈ ts, e.sides.length ≤ 1073741824) :
    Calls Tryz.prog 11 #[.agg #[.slice A n c, .slice A2 m c2], .agg #[.slice B n d, .slice B2 m d2]] w fun e w' => e = .returned (.bool true) ∧ Below w.heap.size w w' := by
  have hb0 : ∀ o1 o2, Below w.heap.size w ((w.alloc o1).alloc o2) := fun o1 o2 => bl_al (bl_al (bl_refl _) _) _
  
  go_enter Tryz.func11, Tryz.ntmps11
  go_wp2_with (first | (go_at_call 32; refine (eqGlueS_same _ _ _ _ _ gs _ (h1.below RGl.stable (hb0 _ _)) (h2.below RGl.stable (hb0 _ _)) hn).mono ?_; rintro e w1 ⟨rfl, hb1⟩; obtain ⟨chb1, fhb1, shb1, thb1⟩ := bcell hb1; (try have bhb10 := shb1 (w.heap.size) (by go_simp)); (try have bhb11 := shb1 (w.heap.size + 1) (by go_simp))) | (go_at_call 33; refine (eqTileS_same _ _ _ _ _ ts _ (k1.below RTi.stable (bl_tr (hb0 _ _) hb1)) (k2.below RTi.stable (bl_tr (hb0 _ _) hb1)) hm hx).mono ?_; rintro e w2 ⟨rfl, hb2⟩; obtain ⟨chb2, fhb2, shb2, thb2⟩ := bcell hb2; (try have bhb20 := shb2 (w.heap.size) (by go_simp)); (try have bhb21 := shb2 (w.heap.size + 1) (by go_simp))))
  go_ret
  refine ⟨rfl, ?_⟩
  exact bel_
theorem eqAssembly_same (A B : Option Addr) (n c d : Nat) (xs : List Pl) (w : World) (h1 : RdSl 3 RPl w A n xs) (h2 : RdSl 3 RPl w B n xs) (hn : n ≤ 1073741824) :
    Calls Tryz.prog 12 #[.agg #[.slice A n c], .agg #[.slice B n d]] w fun e w' => e = .returned (.bool true) ∧ Below w.heap.size w w' := by
  have hb0 : ∀ o1 o2, Below w.heap.size w ((w.alloc o1).alloc o2) := fun o1 o2 => bl_al (bl_al (bl_refl _) _) _
  
  go_enter Tryz.func12, Tryz.ntmps12
  go_wp2_with (go_at_call 34; refine (eqPlacedS_same _ _ _ _ _ xs _ (h1.below RPl.stable (hb0 _ _)) (h2.below RPl.stable (hb0 _ _)) hn).mono ?_; rintro e w1 ⟨rfl, hb1⟩; obtain ⟨chb1, fhb1, shb1, thb1⟩ := bcell hb1; (try have bhb10 := shb1 (w.heap.size) (by go_simp)); (try have bhb11 := shb1 (w.heap.size + 1) (by go_simp)))
  go_ret
  refine ⟨rfl, ?_⟩
  exact bel_
end Go.Proofs.YthieodccakphiaaGreat
/- Walks: the harness' words on systems: their size, a copy, the comparison. -/



namespace Go.Proofs.YthieodccakphiaaGreat
open Go.RowKit
attribute [local go_sem] BelowBy.cell BelowBy.cell_drew stillUpon givesUpon

set_option maxHeartbeats 1000000 in
theorem szSystem_any (A B C : Option Addr) (n c m d q e : Nat) (gs : List Gl) (ts : List Ti) (t left : Int) (w : World) (h : RdSl 2 RGl w A n gs) (k : RdSl 2 RTi w B m ts) (h0 : 0 ≤ left) (h1 : left ≤ 1048576) (hn : n ≤ 9223372036854775807) (hm : m ≤ 9223372036854775807)
    (hx : ∀ e ∈ gs, e.name.size ≤ 9223372036854775807) (hy : ∀ e ∈ ts, e.name.size ≤ 9223372036854775807 ∧ e.sides.length ≤ 9223372036854775807) (hq : q ≤ 9223372036854775807) :
    Calls Tryz.prog 13 #[.agg #[.slice A n c, .slice B m d, .slice C q e, .int .i64 t], .int .i64 left] w (SzRes w left ((((n : Int) ≤ left ∧ ∀ e ∈ gs, (e.name.size : Int) ≤ left) ∧ ((m : Int) ≤ left ∧ ∀ e ∈ ts, (e.name.size : Int) ≤ left ∧ (e.sides.length : Int) ≤ left)) ∧ (q : Int) ≤ left)) := by
  have hb0 : ∀ o1, Below w.heap.size w (w.alloc o1) := fun o1 => bl_al (bl_refl _) _
  go_enter Tryz.func13, Tryz.ntmps13
  go_wp2_with (go_at_call 5; refine (szTileSet_any _ _ _ _ _ _ gs ts _ _ (h.below RGl.stable (hb0 _)) (k.below RTi.stable (hb0 _)) h0 h1 hn hm hx hy).mono ?_; rintro e w1 ⟨r, rfl, (rfl | ⟨hr0, hr1, hr2⟩), hb1⟩; all_goals (obtain ⟨cb1, fb1, sb1, tb1⟩ := bcell hb1; have bb1 := sb1 w.heap.size (by go_simp)))
  · go_ret
    exact ⟨_, rfl, .inl rfl, bl_tr (bl_al (bl_refl _) _) hb1⟩
  · have HR := Lib.hid hr2
    clear hr2
    go_wp2_with (go_at_call 6; refine (szAssembly_any _ _ _ _ _ hr0 (by omega) hq).mono ?_; rintro e w2 ⟨r2, rfl, (rfl | ⟨hq0, hq1, hq2⟩), hb2⟩)
    · go_ret
      exact ⟨_, rfl, .inl rfl, bl_tr (bl_tr (bl_al (bl_refl _) _) hb1) hb2⟩
    · go_wp2
      go_ret
      exact ⟨_, rfl, .inr ⟨hq0, by omega, HR.out, by omega⟩, bl_tr (bl_tr (bl_al (bl_refl _) _) hb1) hb2⟩
/-- a system that was copied -/
def ResSys (TG TT TI TP : Nat) (w : World) (n : Nat) (gs : List Gl) (m : Nat) (ts : List Ti) (q : Nat) (xs : List Pl) (t : Int) (e : Ending) (w' : World) : Prop :=
  ∃ A B C, e = .returned (.agg #[.slice A n n, .slice B m m, .slice C q q, .int .i64 t]) ∧ OwSl TG 2 RGl w' w.heap.size A n gs ∧ OwSl TT 2 (ROTi TI w.heap.size) w' w.heap.size B m ts ∧ OwSl TP 3 RPl w' w.heap.size C q xs ∧ Below w.heap.size w w'
set_option maxRecDepth 100000 in
set_option maxHeartbeats 2000000 in
theorem toSystem_any (A B C : Option Addr) (n c m d q e : Nat) (gs : List Gl) (ts : List Ti) (xs : List Pl) (t : Int) (w : World) (h : RdSl 2 RGl w A n gs) (k : RdSl 2 RTi w B m ts) (j : RdSl 3 RPl w C q xs) (hn : n ≤ 1073741824) (hm : m ≤ 1073741824) (hx : ∀ e ∈ ts, e.sides.length ≤ 1073741824) (hq : q ≤ 1073741824) :
    Calls Tryz.prog 15 #[.agg #[.slice A n c, .slice B m d, .slice C q e, .int .i64 t]] w (ResSys 117 119 2 108 w n gs m ts q xs t) := by
  go_enter Tryz.func15, Tryz.ntmps15
  go_wp2_with (go_at_call 8; refine (toTileSet_any _ _ _ _ _ _ gs ts _ (h.below RGl.stable (by exact bel_)) (k.below RTi.stable (by exact bel_)) hn hm hx).mono ?_; rintro e w1 ⟨A', B', rfl, how, how2, hb1⟩; obtain ⟨chb1, fhb1, shb1, thb1⟩ := bcell hb1; (have b0 := shb1 w.heap.size (by go_simp)); (have b1 := shb1 (w.heap.size + 1) (by go_simp)); (have b2 := shb1 (w.heap.size + 1 + 1) (by go_simp)))
  go_wp2_with (go_at_call 9; refine (toAssembly_any _ _ _ xs _ (j.below RPl.stable (by exact bel_)) hq).mono ?_; rintro e w2 ⟨C', rfl, how3, hb2⟩; obtain ⟨chb2, fhb2, shb2, thb2⟩ := bcell hb2; (have c0 := shb2 w.heap.size (by go_simp)); (have c1 := shb2 (w.heap.size + 1) (by go_simp)); (have c2 := shb2 (w.heap.size + 1 + 1) (by go_simp)))
  refine bodyPost_ret (v := .agg #[.slice A' n n, .slice B' m m, .slice C' q q, .int .i64 t]) (by simp only [results, Tryz.results15]; go_simp) rfl ?_
  have e1 : w.heap.size ≤ w1.heap.size := by omega
  refine ⟨A', B', C', rfl, (((((((((how.set (RGl.stableAt _) ?_ _).set (RGl.stableAt _) ?_ _).below RGl.stable hb2).set (RGl.stableAt _) ?_ _).set (RGl.stableAt _) ?_ _).set (RGl.stableAt _) ?_ _).set (RGl.stableAt _) ?_ _).set (RGl.stableAt _) ?_ _).set (RGl.stableAt _) ?_ _).weaken ?_,
    (((((((((how2.set (ROTi.stableAt _ _) ?_ _).set (ROTi.stableAt _ _) ?_ _).below (ROTi.stable _ _) hb2).set (ROTi.stableAt _ _) ?_ _).set (ROTi.stableAt _ _) ?_ _).set (ROTi.stableAt _ _) ?_ _).set (ROTi.stableAt _ _) ?_ _).set (ROTi.stableAt _ _) ?_ _).set (ROTi.stableAt _ _) ?_ _).weakenTi ?_ ?_,
    ((((((how3.set (RPl.stableAt _) ?_ _).set (RPl.stableAt _) ?_ _).set (RPl.stableAt _) ?_ _).set (RPl.stableAt _) ?_ _).set (RPl.stableAt _) ?_ _).set (RPl.stableAt _) ?_ _).weaken ?_, ?_⟩
  all_goals exact bel_
set_option maxHeartbeats 1000000 in
theorem eqSystem_same (A B A2 B2 A3 B3 : Option Addr) (n c d m c2 d2 q c3 d3 : Nat) (gs : List Gl) (ts : List Ti) (xs : List Pl) (t : Int) (w : World) (h1 : RdSl 2 RGl w A n gs) (h2 : RdSl 2 RGl w B n gs) (k1 : RdSl 2 RTi w A2 m ts) (k2 : RdSl 2 RTi w B2 m ts) (j1 : RdSl 3 RPl w A3 q xs) (j2 : RdSl 3 RPl w B3 q xs)
    (hn : n ≤ 1073741824) (hm : m ≤ 1073741824) (hx : ∀ e ∈ ts, e.sides.length ≤ 1073741824) (hq : q ≤ 1073741824) :
    Calls Tryz.prog 18 #[.agg #[.slice A n c, .slice A2 m c2, .slice A3 q c3, .int .i64 t], .agg #[.slice B n d, .slice B2 m d2, .slice B3 q d3, .int .i64 t]] w fun e w' => e = .returned (.bool true) ∧ Below w.heap.size w w' := by
  have hb0 : ∀ o1 o2, Below w.heap.size w ((w.alloc o1).alloc o2) := fun o1 o2 => bl_al (bl_al (bl_refl _) _) _
  
  go_enter Tryz.func18, Tryz.ntmps18
  go_wp2_with (first | (go_at_call 11; refine (eqTileSet_same _ _ _ _ _ _ _ _ _ _ gs ts _ (h1.below RGl.stable (hb0 _ _)) (h2.below RGl.stable (hb0 _ _)) (k1.below RTi.stable (hb0 _ _)) (k2.below RTi.stable (hb0 _ _)) hn hm hx).mono ?_; rintro e w1 ⟨rfl, hb1⟩; obtain ⟨chb1, fhb1, shb1, thb1⟩ := bcell hb1; (try have bhb10 := shb1 (w.heap.size) (by go_simp)); (try have bhb11 := shb1 (w.heap.size + 1) (by go_simp))) | (go_at_call 12; refine (eqAssembly_same _ _ _ _ _ xs _ (j1.below RPl.stable (bl_tr (hb0 _ _) hb1)) (j2.below RPl.stable (bl_tr (hb0 _ _) hb1)) hq).mono ?_; rintro e w2 ⟨rfl, hb2⟩; obtain ⟨chb2, fhb2, shb2, thb2⟩ := bcell hb2; (try have bhb20 := shb2 (w.heap.size) (by go_simp)); (try have bhb21 := shb2 (w.heap.size + 1) (by go_simp))))
  go_ret
  refine ⟨rfl, ?_⟩
  exact bel_
end Go.Proofs.YthieodccakphiaaGreat
/- Walks: the harness' marks on systems. -/


namespace Go.Proofs.YthieodccakphiaaGreat
open Go.RowKit
attribute [local go_sem] BelowBy.cell BelowBy.cell_drew stillUpon givesUpon

theorem MkTiles.setLow {TT TI lo hi : Nat} {w : World} {A : Option Addr} {m : Nat} (h : MkTiles TT TI lo hi w A m) {p : Addr} (hp : p.block < lo) (u : Value) : MkTiles TT TI lo hi (w.setCell p u) A m :=
  h.keep fun k hk _ => Below.heap_setCell w p u k (by omega)
theorem MkRow.setLow {T : TypeId} {size lo hi : Nat} {w : World} {A : Option Addr} {n : Nat} (h : MkRow T size lo hi w A n) {p : Addr} (hp : p.block < lo) (u : Value) : MkRow T size lo hi (w.setCell p u) A n :=
  h.keep fun k hk _ => Below.heap_setCell w p u k (by omega)
theorem MkRow.hi_ {T : TypeId} {size lo hi hi' : Nat} {w : World} {A : Option Addr} {n : Nat} (h : MkRow T size lo hi w A n) (hl : hi ≤ hi') : MkRow T size lo hi' w A n := fun hn => by
  obtain ⟨g, N, f, h1, h2, h3, h4, h5⟩ := h hn
  exact ⟨g, N, f, h1, h2, Nat.lt_of_lt_of_le h3 hl, h4, h5⟩
/-- what may be marked of a system that was copied: the set's blocks lie below md, the seed's from md on -/
structure MkSys (lo md hi : Nat) (w : World) (A B C : Option Addr) (n m q : Nat) : Prop where
  lm : lo ≤ md
  mh : md ≤ hi
  g : MkRow 117 2 lo md w A n
  t : MkTiles 119 2 lo md w B m
  p : MkRow 108 3 md hi w C q
theorem MkSys.below {lo md hi : Nat} {w w' : World} {A B C : Option Addr} {n m q : Nat} (h : MkSys lo md hi w A B C n m q) (hb : Below w.heap.size w w') (hh : hi ≤ w.heap.size) : MkSys lo md hi w' A B C n m q :=
  ⟨h.lm, h.mh, h.g.below hb (Nat.le_trans h.mh hh), h.t.below hb (Nat.le_trans h.mh hh), h.p.below hb hh⟩
theorem MkSys.mkd {lo md hi lo' hi' : Nat} {w w' : World} {A B C : Option Addr} {n m q : Nat} (h : MkSys lo md hi w A B C n m q) (hb : Mk lo' hi' w w') (h1 : hi' ≤ lo) (hh : hi ≤ w.heap.size) : MkSys lo md hi w' A B C n m q :=
  ⟨h.lm, h.mh, h.g.mk hb h1 (Nat.le_trans h.mh hh), h.t.mk hb h1 (Nat.le_trans h.mh hh), h.p.mk hb (Nat.le_trans h1 h.lm) hh⟩
theorem MkSys.lo_ {lo lo' md hi : Nat} {w : World} {A B C : Option Addr} {n m q : Nat} (h : MkSys lo md hi w A B C n m q) (hl : lo' ≤ lo) : MkSys lo' md hi w A B C n m q :=
  ⟨Nat.le_trans hl h.lm, h.mh, h.g.lo_ hl, h.t.lo_ hl, h.p⟩
/-- a system that was copied, and may be marked -/
def ResSysM (TG TT TI TP : Nat) (w : World) (n : Nat) (gs : List Gl) (m : Nat) (ts : List Ti) (q : Nat) (xs : List Pl) (t : Int) (e : Ending) (w' : World) : Prop :=
  ∃ A B C md, e = .returned (.agg #[.slice A n n, .slice B m m, .slice C q q, .int .i64 t]) ∧ OwSl TG 2 RGl w' w.heap.size A n gs ∧ OwSl TT 2 (ROTi TI w.heap.size) w' w.heap.size B m ts ∧ OwSl TP 3 RPl w' w.heap.size C q xs ∧ MkSys w.heap.size md w'.heap.size w' A B C n m q ∧ Below w.heap.size w w'
set_option maxRecDepth 100000 in
set_option maxHeartbeats 2000000 in
theorem toSystemM_any (A B C : Option Addr) (n c m d q e : Nat) (gs : List Gl) (ts : List Ti) (xs : List Pl) (t : Int) (w : World) (h : RdSl 2 RGl w A n gs) (k : RdSl 2 RTi w B m ts) (j : RdSl 3 RPl w C q xs) (hn : n ≤ 1073741824) (hm : m ≤ 1073741824) (hx : ∀ e ∈ ts, e.sides.length ≤ 1073741824) (hq : q ≤ 1073741824) :
    Calls Tryz.prog 15 #[.agg #[.slice A n c, .slice B m d, .slice C q e, .int .i64 t]] w (ResSysM 117 119 2 108 w n gs m ts q xs t) := by
  go_enter Tryz.func15, Tryz.ntmps15
  go_wp2_with (go_at_call 8; refine (toTileSet_any _ _ _ _ _ _ gs ts _ (h.below RGl.stable (by exact bel_)) (k.below RTi.stable (by exact bel_)) hn hm hx).mono ?_; rintro e w1 ⟨A', B', rfl, how, how2, hb1⟩; obtain ⟨chb1, fhb1, shb1, thb1⟩ := bcell hb1; (have b0 := shb1 w.heap.size (by go_simp)); (have b1 := shb1 (w.heap.size + 1) (by go_simp)); (have b2 := shb1 (w.heap.size + 1 + 1) (by go_simp)))
  go_wp2_with (go_at_call 9; refine (toAssembly_any _ _ _ xs _ (j.below RPl.stable (by exact bel_)) hq).mono ?_; rintro e w2 ⟨C', rfl, how3, hb2⟩; obtain ⟨chb2, fhb2, shb2, thb2⟩ := bcell hb2; (have c0 := shb2 w.heap.size (by go_simp)); (have c1 := shb2 (w.heap.size + 1) (by go_simp)); (have c2 := shb2 (w.heap.size + 1 + 1) (by go_simp)))
  refine bodyPost_ret (v := .agg #[.slice A' n n, .slice B' m m, .slice C' q q, .int .i64 t]) (by simp only [results, Tryz.results15]; go_simp) rfl ?_
  have e1 : w.heap.size ≤ w1.heap.size := by omega
  have hs2 := hb2.size
  refine ⟨A', B', C', w1.heap.size, rfl, (((((((((how.set (RGl.stableAt _) ?_ _).set (RGl.stableAt _) ?_ _).below RGl.stable hb2).set (RGl.stableAt _) ?_ _).set (RGl.stableAt _) ?_ _).set (RGl.stableAt _) ?_ _).set (RGl.stableAt _) ?_ _).set (RGl.stableAt _) ?_ _).set (RGl.stableAt _) ?_ _).weaken ?_,
    (((((((((how2.set (ROTi.stableAt _ _) ?_ _).set (ROTi.stableAt _ _) ?_ _).below (ROTi.stable _ _) hb2).set (ROTi.stableAt _ _) ?_ _).set (ROTi.stableAt _ _) ?_ _).set (ROTi.stableAt _ _) ?_ _).set (ROTi.stableAt _ _) ?_ _).set (ROTi.stableAt _ _) ?_ _).set (ROTi.stableAt _ _) ?_ _).weakenTi ?_ ?_,
    ((((((how3.set (RPl.stableAt _) ?_ _).set (RPl.stableAt _) ?_ _).set (RPl.stableAt _) ?_ _).set (RPl.stableAt _) ?_ _).set (RPl.stableAt _) ?_ _).set (RPl.stableAt _) ?_ _).weaken ?_,
    ⟨e1, ?_, (((((((((how.mk_).setLow ?_ _).setLow ?_ _).below hb2 ?_).setLow ?_ _).setLow ?_ _).setLow ?_ _).setLow ?_ _).setLow ?_ _).setLow ?_ _ |>.lo_ ?_,
      (((((((((how2.mkTiles hx).setLow ?_ _).setLow ?_ _).below hb2 ?_).setLow ?_ _).setLow ?_ _).setLow ?_ _).setLow ?_ _).setLow ?_ _).setLow ?_ _ |>.lo_ ?_,
      (((((((how3.mk_).setLow ?_ _).setLow ?_ _).setLow ?_ _).setLow ?_ _).setLow ?_ _).setLow ?_ _).lo_ ?_ |>.hi_ ?_⟩, ?_⟩
  all_goals exact bel_
set_option maxRecDepth 100000 in
set_option maxHeartbeats 1000000 in
theorem markSystem_any (A B C : Option Addr) (n c m d q e k lo md hi : Nat) (t : Int) (w : World) (h : MkSys lo md hi w A B C n m q) (hh : hi ≤ w.heap.size) (hl : lo ≤ w.heap.size) (hk : k + 2 * n + 1073741825 * m + 3 * q ≤ 4611686018427387904) :
    Calls Tryz.prog 19 #[.agg #[.slice A n c, .slice B m d, .slice C q e, .int .i64 t], .int .i64 (k : Int)] w (MkRes2 lo hi w k (k + 2 * n + 1073741825 * m + 3 * q)) := by
  have ha : Below w.heap.size w (w.alloc (.cells #[.slice A n c, .slice B m d, .slice C q e, .int .i64 t] 55)) := bl_al (bl_refl _) _
  have haH := Lib.hid ha
  have h' := Lib.hid (h.below ha hh)
  have lm := h.lm
  have mh := h.mh
  clear h ha
  go_enter Tryz.func19, Tryz.ntmps19
  go_wp2_with fail
  refine (markTileSet_any A B n c m d k lo md _ h'.out.g h'.out.t (by simp; omega) (by simp; omega) (by omega)).mono ?_
  rintro e1 w1 ⟨r, rfl, hr1, hr2, hm1⟩
  have hs1 := hm1.size
  have y1 : w1.cell? ⟨w.heap.size, 2, none⟩ = some (.slice C q e) := (World.cell?_of_block (a := ⟨w.heap.size, 2, none⟩) (hm1.keep w.heap.size (by omega) (by simp))).trans (by go_simp)
  have l1 : w.heap.size < w1.heap.size := by simp at hs1; omega
  have hm1H := Lib.hid hm1
  have hp := Lib.hid (h'.out.p.mk hm1 (Nat.le_refl _) (by simp; omega))
  clear hm1
  go_wp2_with fail
  refine (markAssembly_any2 C q e r md hi _ hp.out (by omega) (by omega) (by omega)).mono ?_
  rintro e2 w2 ⟨r2, rfl, hr3, hr4, hm2⟩
  have hm2H := Lib.hid hm2
  clear hm2
  go_wp2
  go_ret
  exact ⟨r2, rfl, by omega, by omega, (Mk.of_below haH.out hl).trans ((hm1H.out.weaken (Nat.le_refl _) mh).trans (hm2H.out.weaken lm (Nat.le_refl _)))⟩
end Go.Proofs.YthieodccakphiaaGreat
/- The rule for regions that draw their order, when one laying of a block may come up at any time among the others. -/

namespace Go.Proofs.YthieodccakphiaaGreat
open Go.RowKit
/-- The block may be laid between two steps: st is the block, if it has been laid. -/
def Mv (z : Obj) (st : Option Nat) (w : World) (st' : Option Nat) (W : World) : Prop := (st' = st ∧ W = w) ∨ (st = none ∧ st' = some w.heap.size ∧ W = w.alloc z)
theorem Mv.below {z : Obj} {st st' : Option Nat} {w W : World} (h : Mv z st w st' W) : Below w.heap.size w W := by
  rcases h with ⟨_, rfl⟩ | ⟨_, _, rfl⟩
  · exact Below.refl _ _
  · exact (Below.refl _ _).alloc (Nat.le_refl _) _
/-- what is known of the block -/
def FlAt (z : Obj) (lo : Nat) (st : Option Nat) (w : World) : Prop := lo ≤ w.heap.size ∧ ∀ b, st = some b → lo ≤ b ∧ w.heap[b]? = some z
theorem FlAt.none (z : Obj) (w : World) : FlAt z w.heap.size .none w := ⟨Nat.le_refl _, fun b h => by cases h⟩
theorem FlAt.mv {z : Obj} {lo : Nat} {st st' : Option Nat} {w W : World} (h : FlAt z lo st w) (hm : Mv z st w st' W) : FlAt z lo st' W := by
  rcases hm with ⟨rfl, rfl⟩ | ⟨rfl, rfl, rfl⟩
  · exact h
  · refine ⟨Nat.le_trans h.1 (by simp), fun b hb => ?_⟩
    injection hb with hb
    subst hb
    exact ⟨h.1, by show (w.heap.push z)[w.heap.size]? = some z; simp⟩
theorem FlAt.below {z : Obj} {lo : Nat} {st : Option Nat} {w W : World} (h : FlAt z lo st w) (hb : Below w.heap.size w W) : FlAt z lo st W :=
  ⟨Nat.le_trans h.1 hb.size, fun b e => ⟨(h.2 b e).1, (hb.block b ((Array.getElem?_eq_some_iff.1 (h.2 b e).2).1)).trans (h.2 b e).2⟩⟩
theorem FlAt.lt {z : Obj} {lo b : Nat} {w : World} (h : FlAt z lo (some b) w) : b < w.heap.size := (Array.getElem?_eq_some_iff.1 (h.2 b rfl).2).1
/-- the block is none of a step's own -/
def FlOut (lo hi : Nat) (st : Option Nat) : Prop := ∀ b, st = some b → b < lo ∨ hi ≤ b
theorem FlOut.of {z : Obj} {lo : Nat} {st : Option Nat} {w : World} (h : FlAt z lo st w) (hi : Nat) : FlOut w.heap.size hi st := fun b e => by subst e; exact .inl h.lt
theorem FlOut.mv {z : Obj} {lo hi : Nat} {st st' : Option Nat} {w W : World} (h : FlOut lo hi st) (hm : Mv z st w st' W) (hh : hi ≤ w.heap.size) : FlOut lo hi st' := by
  rcases hm with ⟨rfl, rfl⟩ | ⟨rfl, rfl, rfl⟩
  · exact h
  · intro b e; injection e with e; subst e; exact .inr hh
section
variable {P : Program} {ops : Array Oper}
def wpL (P : Program) (ops : Array Oper) (z : Obj) (F : Nat → Act → World → Prop) : List (Oper × Tag) → Option Nat → Act → World → Prop
  | [], st, a, w => ∀ b W, Mv z st w (some b) W → F b a W
  | (o, .q) :: rest, st, a, w =>
    if Region.wanted o (yielded ops a.tmps) then ∃ v, (∀ p : BelowBy w, stillUpon p.world v ((execOp a.eval o).run P p.world)) ∧ wpL P ops z F rest st (a.put o.dst v) w
    else wpL P ops z F rest st (a.put o.dst undef) w
  | (o, .p) :: rest, st, a, w =>
    if Region.wanted o (yielded ops a.tmps) then ∃ v, (∀ W : World, stillUpon W v ((execOp a.eval o).run P W)) ∧ wpL P ops z F rest st (a.put o.dst v) w
    else wpL P ops z F rest st (a.put o.dst undef) w
  | (o, .g) :: rest, st, a, w =>
    if Region.wanted o (yielded ops a.tmps) then ∀ st' W, Mv z st w st' W → givesUpon P (fun v w' => Below W.heap.size W w' ∧ wpL P ops z F rest st' (a.put o.dst v) w') ((execOp a.eval o).run P W)
    else wpL P ops z F rest st (a.put o.dst undef) w
  | (_, .b) :: _, _, _, _ => False
variable {z : Obj} {F : Nat → Act → World → Prop}
theorem wpL_q {o : Oper} {rest : List (Oper × Tag)} {st : Option Nat} {a : Act} {w : World}
    (h : ∀ K : Act → Prop, (∀ a, wpL P ops z F rest st a w → K a) → if Region.wanted o (yielded ops a.tmps) then ∃ v, (∀ p : BelowBy w, stillUpon p.world v ((execOp a.eval o).run P p.world)) ∧ K (a.put o.dst v) else K (a.put o.dst undef)) :
    wpL P ops z F ((o, .q) :: rest) st a w := h _ fun _ h => h
theorem wpL_p {o : Oper} {rest : List (Oper × Tag)} {st : Option Nat} {a : Act} {w : World}
    (h : ∀ K : Act → Prop, (∀ a, wpL P ops z F rest st a w → K a) → if Region.wanted o (yielded ops a.tmps) then ∃ v, (∀ W : World, stillUpon W v ((execOp a.eval o).run P W)) ∧ K (a.put o.dst v) else K (a.put o.dst undef)) :
    wpL P ops z F ((o, .p) :: rest) st a w := h _ fun _ h => h
theorem wpL_g {o : Oper} {rest : List (Oper × Tag)} {st : Option Nat} {a : Act} {w : World} (hgd : o.guard = none)
    (h : ∀ K : Option Nat → Act → World → Prop, (∀ st' a w', wpL P ops z F rest st' a w' → K st' a w') → ∀ st' W, Mv z st w st' W → givesUpon P (fun v w' => Grew W w' ∧ K st' (a.put o.dst v) w') ((execOp a.eval o).run P W)) :
    wpL P ops z F ((o, .g) :: rest) st a w := by
  have hw : Region.wanted o (yielded ops a.tmps) = true := by simp [Region.wanted, hgd]
  simp only [wpL, hw, if_true]
  exact h _ fun _ _ _ h => h
theorem wpL_nil {st : Option Nat} {a : Act} {w : World} (h : ∀ b W, Mv z st w (some b) W → F b a W) : wpL P ops z F [] st a w := h

theorem wpL_alloc : ∀ (l : List (Oper × Tag)) (a : Act) (w : World), wpL P ops z F l none a w → wpL P ops z F l (some w.heap.size) a (w.alloc z)
  | [], a, w, h => fun b W hm => h b W (by
      rcases hm with ⟨e, rfl⟩ | ⟨e, _, _⟩
      · exact .inr ⟨rfl, e, rfl⟩
      · cases e)
  | (o, .q) :: rest, a, w, h => by
    simp only [wpL] at h ⊢
    split at h <;> rename_i hw <;> simp only [hw, if_true, if_false, Bool.false_eq_true]
    · obtain ⟨v, h1, h2⟩ := h
      exact ⟨v, fun p => h1 ⟨p.world, ((Below.refl _ _).alloc (Nat.le_refl _) z).trans (p.h.mono (by simp))⟩, wpL_alloc rest _ _ h2⟩
    · exact wpL_alloc rest _ _ h
  | (o, .p) :: rest, a, w, h => by
    simp only [wpL] at h ⊢
    split at h <;> rename_i hw <;> simp only [hw, if_true, if_false, Bool.false_eq_true]
    · obtain ⟨v, h1, h2⟩ := h
      exact ⟨v, h1, wpL_alloc rest _ _ h2⟩
    · exact wpL_alloc rest _ _ h
  | (o, .g) :: rest, a, w, h => by
    simp only [wpL] at h ⊢
    split at h <;> rename_i hw <;> simp only [hw, if_true, if_false, Bool.false_eq_true]
    · intro st' W hm
      refine h st' W ?_
      rcases hm with ⟨e, rfl⟩ | ⟨e, _, _⟩
      · exact .inr ⟨rfl, e, rfl⟩
      · cases e
    · exact wpL_alloc rest _ _ h
  | (o, .b) :: rest, a, w, h => h

theorem exchL {oj : Oper} {tj : Tag} {post : List (Oper × Tag)} (hsj : ∀ cs b, oj.op ≠ .select cs b) (st : Option Nat) : ∀ (pre : List (Oper × Tag)) (a : Act) (w : World),
    (∀ x ∈ pre, (x.2 = .q ∨ x.2 = .p) ∧ x.1.apart ops oj = true ∧ ∀ cs b, x.1.op ≠ .select cs b) → wpL P ops z F (pre ++ (oj, tj) :: post) st a w →
    opStep P ops oj (fun v w' => Below w.heap.size w w' ∧ wpL P ops z F (pre ++ post) st (a.put oj.dst v) w') a w
  | [], a, w, _, h => by
    unfold opStep
    simp only [List.nil_append] at h ⊢
    cases tj <;> simp only [wpL] at h
    · split at h <;> rename_i hw <;> simp only [hw, if_true, if_false, Bool.false_eq_true]
      · obtain ⟨v, h1, h2⟩ := h
        exact givesUpon_of_still (h1 ⟨w, Below.refl _ _⟩) ⟨Below.refl _ _, h2⟩
      · exact ⟨Below.refl _ _, h⟩
    · split at h <;> rename_i hw <;> simp only [hw, if_true, if_false, Bool.false_eq_true]
      · exact h st w (.inl ⟨rfl, rfl⟩)
      · exact ⟨Below.refl _ _, h⟩
    · split at h <;> rename_i hw <;> simp only [hw, if_true, if_false, Bool.false_eq_true]
      · obtain ⟨v, h1, h2⟩ := h
        exact givesUpon_of_still (h1 w) ⟨Below.refl _ _, h2⟩
      · exact ⟨Below.refl _ _, h⟩
  | (op, t) :: pre, a, w, hp, h => by
    obtain ⟨ht, hap, hsp⟩ := hp (op, t) (by simp)
    simp only at ht hap hsp
    obtain ⟨h1, h2, h3⟩ := Oper.apart_spec hap
    have hp' : ∀ x ∈ pre, (x.2 = .q ∨ x.2 = .p) ∧ x.1.apart ops oj = true ∧ ∀ cs b, x.1.op ≠ .select cs b := fun x hx => hp x (by simp [hx])
    have key : ∀ v, (∀ w', Below w.heap.size w w' → ∀ u, wpL P ops z F (pre ++ post) st ((a.put oj.dst u).put op.dst v) w' → wpL P ops z F ((op, t) :: (pre ++ post)) st (a.put oj.dst u) w') →
        wpL P ops z F (pre ++ (oj, tj) :: post) st (a.put op.dst v) w → opStep P ops oj (fun v w' => Below w.heap.size w w' ∧ wpL P ops z F ((op, t) :: pre ++ post) st (a.put oj.dst v) w') a w := by
      intro v hk hh
      have ih := exchL hsj st pre (a.put op.dst v) w hp' hh
      unfold opStep at ih ⊢
      rw [wanted_put oj a op.dst v h1, execOp_put oj hsj a op.dst v h1] at ih
      split at ih <;> rename_i hw <;> simp only [hw, if_true, if_false, Bool.false_eq_true]
      · refine givesUpon_mono ih fun u w' hh' => ⟨hh'.1, hk w' hh'.1 u ?_⟩
        rw [← Act.put_comm a v u h2]; exact hh'.2
      · refine ⟨ih.1, hk w (Below.refl _ _) undef ?_⟩
        rw [← Act.put_comm a v undef h2]; exact ih.2
    rcases ht with rfl | rfl
    · simp only [List.cons_append, wpL] at h
      split at h
      · rename_i hw
        obtain ⟨v, hv, hrest⟩ := h
        refine key v (fun w' hbw u hr => ?_) hrest
        simp only [wpL]
        rw [wanted_put op a oj.dst u h3, if_pos hw, execOp_put op hsp a oj.dst u h3]
        exact ⟨v, fun p => hv ⟨p.world, hbw.trans (p.h.mono hbw.size)⟩, hr⟩
      · rename_i hw
        refine key undef (fun w' hbw u hr => ?_) h
        simp only [wpL]
        rw [wanted_put op a oj.dst u h3, if_neg hw]
        exact hr
    · simp only [List.cons_append, wpL] at h
      split at h
      · rename_i hw
        obtain ⟨v, hv, hrest⟩ := h
        refine key v (fun w' hbw u hr => ?_) hrest
        simp only [wpL]
        rw [wanted_put op a oj.dst u h3, if_pos hw, execOp_put op hsp a oj.dst u h3]
        exact ⟨v, hv, hr⟩
      · rename_i hw
        refine key undef (fun w' hbw u hr => ?_) h
        simp only [wpL]
        rw [wanted_put op a oj.dst u h3, if_neg hw]
        exact hr

def flPtr (b : Nat) : Value := .pointer (some ⟨b, 0, none⟩)
def realAct (fo : Oper) (st : Option Nat) (a : Act) : Act := match st with
  | none => a
  | some b => a.put fo.dst (flPtr b)

theorem wpL_toD {Q : Act → World → Prop} {fo : Oper} {pb : List (Oper × Tag)} {b : Nat} : ∀ (l : List (Oper × Tag)) (a : Act) (w : World), (∀ x ∈ l, x.2 = .p ∧ fo.apart ops x.1 = true ∧ ∀ cs b, x.1.op ≠ .select cs b) →
    wpL P ops z (fun b a w => wpD P ops Q pb (a.put fo.dst (flPtr b)) w) l (some b) a w → wpD P ops Q (l ++ pb) (a.put fo.dst (flPtr b)) w
  | [], a, w, _, h => h b w (.inl ⟨rfl, rfl⟩)
  | (o, t) :: rest, a, w, hp, h => by
    obtain ⟨ht, hap, hsp⟩ := hp (o, t) (by simp)
    simp only at ht hap hsp
    subst ht
    obtain ⟨p1, p2, p3⟩ := Oper.apart_spec hap
    have hp' : ∀ x ∈ rest, x.2 = .p ∧ fo.apart ops x.1 = true ∧ ∀ cs b, x.1.op ≠ .select cs b := fun x hx => hp x (by simp [hx])
    simp only [List.cons_append, wpD]
    simp only [wpL] at h
    rw [wanted_put o a fo.dst (flPtr b) p1, execOp_put o hsp a fo.dst (flPtr b) p1]
    split at h <;> rename_i hw <;> simp only [hw, if_true, if_false, Bool.false_eq_true]
    · obtain ⟨v, h1, h2⟩ := h
      refine ⟨v, h1, ?_⟩
      rw [Act.put_comm a (flPtr b) v p2]
      exact wpL_toD rest _ _ hp' h2
    · rw [Act.put_comm a (flPtr b) undef p2]
      exact wpL_toD rest _ _ hp' h

theorem rem_set {ord : List (Nat × Tag)} {listed : Array Bool} {i : Nat} (h : ∀ y ∈ ord, y.1 ≠ i) : rem ord (listed.setIfInBounds i true) = rem ord listed := by
  unfold rem
  apply List.filter_congr
  intro y hy
  rw [getD_set_ne true (fun e => h y hy e.symm)]

theorem fl_sound {Q : Exit → Act → World → Prop} (fi : Nat) (fo : Oper) (A B : List (Nat × Tag)) (hsel : Region.noSelect ops = true) (hcov : ∀ i, i < ops.size → ∃ x ∈ (fi, Tag.p) :: (A ++ B), x.1 = i)
    (hpw : ((fi, Tag.p) :: (A ++ B)).Pairwise (Rel2 ops)) (hsome : ∀ y ∈ (fi, Tag.p) :: (A ++ B), (ops[y.1]?).isSome = true) (htop : ∀ pre y post, (fi, Tag.p) :: (A ++ B) = pre ++ y :: post → ∀ d ∈ depsOf ops y.1, ∃ x ∈ pre, x.1 = d)
    (hfo : ops[fi]? = some fo) (hap : ∀ y ∈ A, apartB ops fi y.1 = true) (hA : ∀ y ∈ A, y.2 ≠ .b) (hanc : ∀ y ∈ B, Anc ops y.1 fi ∧ ∀ x ∈ A, x.2 ≠ .p → Anc ops y.1 x.1)
    (hrun : ∀ (a : Act) (w : World), Region.wanted fo (yielded ops a.tmps) = true ∧ (execOp a.eval fo).run P w = .ok (.value (flPtr w.heap.size)) (w.alloc z)) :
    ∀ (m : Nat) (listed : Array Bool) (st : Option Nat) (a : Act) (w : World), (rem A listed).length + (if listed.getD fi true then 0 else 1) = m → (∀ y ∈ B, listed.getD y.1 true = false) → Ideal ops listed → st.isSome = listed.getD fi true →
      wpL P ops z (fun b a w => wpD P ops (Q .normal) (pick ops B) (a.put fo.dst (flPtr b)) w) (pick ops (rem A listed)) st a w → wpAny P .any ops Q (B.length + m) listed (realAct fo st a) w := by
  have hlt : ∀ y ∈ (fi, Tag.p) :: (A ++ B), y.1 < ops.size := fun y hy => by
    have := hsome y hy
    rw [Option.isSome_iff_exists] at this
    obtain ⟨o, ho⟩ := this
    exact (Array.getElem?_eq_some_iff.1 ho).1
  obtain ⟨hpf, hpAB⟩ := List.pairwise_cons.1 hpw
  obtain ⟨hpA, hpB, hpX⟩ := List.pairwise_append.1 hpAB
  intro m
  have hdone : ∀ (m : Nat) (listed : Array Bool) (st : Option Nat) (a : Act) (w : World), (rem A listed).length + (if listed.getD fi true then 0 else 1) = m → (∀ y ∈ B, listed.getD y.1 true = false) → Ideal ops listed → st.isSome = listed.getD fi true →
      wpL P ops z (fun b a w => wpD P ops (Q .normal) (pick ops B) (a.put fo.dst (flPtr b)) w) (pick ops (rem A listed)) st a w → listed.getD fi true = true → (∀ y ∈ rem A listed, y.2 = .p) → wpAny P .any ops Q (B.length + m) listed (realAct fo st a) w := by
    intro m listed st a w hm hBl hid hst h hfl hallp
    rw [hfl] at hst hm
    obtain ⟨b, rfl⟩ := Option.isSome_iff_exists.1 hst
    have hD := wpL_toD (pick ops (rem A listed)) a w (by
      intro u hu
      obtain ⟨y, hy, hyz⟩ := List.mem_filterMap.1 hu
      have hyA := (List.mem_filter.1 hy).1
      obtain ⟨oy, hoy⟩ := Option.isSome_iff_exists.1 (hsome y (by simp [hyA]))
      rw [hoy] at hyz
      simp only [Option.map_some, Option.some.injEq] at hyz
      subst hyz
      refine ⟨hallp y hy, ?_, fun cs b => Region.noSelect_spec hsel y.1 oy cs b hoy⟩
      have := hap y hyA
      unfold apartB at this
      rw [hfo, hoy] at this
      exact this) h
    have hremB : rem ((fi, Tag.p) :: (A ++ B)) listed = rem A listed ++ B := by
      have e1 : rem ((fi, Tag.p) :: (A ++ B)) listed = rem A listed ++ rem B listed := by
        unfold rem
        rw [List.filter_cons, List.filter_append]
        simp [hfl]
      rw [e1]
      congr 1
      exact List.filter_eq_self.2 fun y hy => by rw [hBl y hy]; rfl
    exact ord_sound (P := P) (Q := Q) _ hsel hcov hpw hsome htop (B.length + m) listed _ w (by rw [hremB, List.length_append]; simp at hm; omega) hid (by
      rw [hremB]
      unfold pick at hD ⊢
      rw [List.filterMap_append]; exact hD)
  induction m with
  | zero =>
    intro listed st a w hm hBl hid hst h
    have hnil : rem A listed = [] := List.eq_nil_of_length_eq_zero (by omega)
    have hfl : listed.getD fi true = true := by
      cases hf : listed.getD fi true
      · rw [hf] at hm; simp at hm
      · rfl
    exact hdone 0 listed st a w hm hBl hid hst h hfl (fun y hy => by rw [hnil] at hy; cases hy)
  | succ m ih =>
    intro listed st a w hm hBl hid hst h
    by_cases hdn : listed.getD fi true = true ∧ ∀ y ∈ rem A listed, y.2 = .p
    · exact hdone (m + 1) listed st a w hm hBl hid hst h hdn.1 hdn.2
    refine ⟨fun h0 => ?_, fun j hj => ?_⟩
    · exfalso
      obtain ⟨y, rest, hrem⟩ : ∃ y rest, rem ((fi, Tag.p) :: (A ++ B)) listed = y :: rest := by
        cases hr : rem ((fi, Tag.p) :: (A ++ B)) listed with
        | nil =>
          exfalso
          have e : ∀ y ∈ (fi, Tag.p) :: (A ++ B), listed.getD y.1 true = true := fun y hy => by
            cases hv : listed.getD y.1 true
            · have : y ∈ rem ((fi, Tag.p) :: (A ++ B)) listed := List.mem_filter.2 ⟨hy, by rw [hv]; rfl⟩
              rw [hr] at this; cases this
            · rfl
          have e1 := e (fi, .p) (by simp)
          have e2 : rem A listed = [] := List.filter_eq_nil_iff.2 fun y hy => by rw [e y (by simp [hy])]; simp
          simp only at e1
          rw [e1, e2] at hm
          simp at hm
        | cons y rest => exact ⟨y, rest, rfl⟩
      obtain ⟨pre, post, hord, hpre⟩ := List.filter_eq_cons_iff.1 hrem
      have hy : y ∈ (fi, Tag.p) :: (A ++ B) := by rw [hord]; simp
      obtain ⟨o, ho⟩ := Option.isSome_iff_exists.1 (hsome y hy)
      have hun : listed.getD y.1 true = false := by
        have : y ∈ rem ((fi, Tag.p) :: (A ++ B)) listed := by rw [hrem]; simp
        simpa using (List.mem_filter.1 this).2
      have : y.1 ∈ Region.ready .any ops listed := ready_of ho hun fun d hd => by
        obtain ⟨x, hx, rfl⟩ := htop pre y post hord d hd
        have h1 := hpre.1 x hx
        have hxl : x.1 < listed.size := by rw [hid.size]; exact hlt x (by rw [hord]; simp [hx])
        rw [← getD_tf hxl]
        simpa using h1
      rw [h0] at this
      cases this
    · obtain ⟨h1, h2, h3⟩ := ready_deps hj
      have hset : ∀ i, (∀ d ∈ depsOf ops i, listed.getD d false = true) → Ideal ops (listed.setIfInBounds i true) := fun i h3 => by
        refine ⟨by simp [hid.size], fun y hy d hd => ?_⟩
        by_cases hxy : i = y
        · subst hxy; exact getD_set_true (h3 d hd)
        · rw [getD_set_ne false hxy] at hy
          exact getD_set_true (hid.closed y hy d hd)
      obtain ⟨x, hx, rfl⟩ := hcov j h1
      rcases List.mem_cons.1 hx with rfl | hx'
      · -- the block is laid
        have hn : st = none := by
          simp only at h2
          rw [h2] at hst
          cases st
          · rfl
          · cases hst
        subst hn
        refine wpOp_of_step hfo ?_
        unfold opStep
        obtain ⟨hw, hr⟩ := hrun (realAct fo none a) w
        rw [if_pos hw, hr]
        have hne : ∀ y ∈ A, y.1 ≠ fi := fun y hy e => (hpf y (by simp [hy])).ne e.symm
        have hneB : ∀ y ∈ B, fi ≠ y.1 := fun y hy e => (hpf y (by simp [hy])).ne e
        have hl : fi < listed.size := by rw [hid.size]; exact h1
        have := ih (listed.setIfInBounds fi true) (some w.heap.size) a (w.alloc z) (by
            rw [rem_set hne]
            simp only at h2
            rw [h2] at hm
            simp [hl]
            simpa using hm) (fun y hy => by rw [getD_set_ne true (hneB y hy)]; exact hBl y hy) (hset fi h3) (by simp [hl]) (by rw [rem_set hne]; exact wpL_alloc _ _ _ h)
        exact this
      · rcases List.mem_append.1 hx' with hxA | hxB
        · have hxr : x ∈ rem A listed := List.mem_filter.2 ⟨hxA, by simpa using h2⟩
          obtain ⟨pre, post, hsplit⟩ := List.append_of_mem hxr
          have hpwr : (rem A listed).Pairwise (Rel2 ops) := hpA.filter _
          rw [hsplit, List.pairwise_append] at hpwr
          obtain ⟨_, hpc, hcross⟩ := hpwr
          obtain ⟨oj, hoj⟩ := Option.isSome_iff_exists.1 (hsome x hx)
          have hpre : ∀ y ∈ pre, Rel2 ops y x ∧ listed.getD y.1 false = false ∧ y ∈ A := fun y hy => by
            have hyr : y ∈ rem A listed := by rw [hsplit]; simp [hy]
            obtain ⟨hyo, hyu⟩ := List.mem_filter.1 hyr
            have hyl : y.1 < listed.size := by rw [hid.size]; exact hlt y (by simp [hyo])
            exact ⟨hcross y hy x (by simp), by rw [← getD_tf hyl]; simpa using hyu, hyo⟩
          have hno : ∀ y ∈ pre, ¬ Anc ops x.1 y.1 := fun y hy ha => by
            have := hid.anc ha h3
            rw [(hpre y hy).2.1] at this
            cases this
          have hsj : ∀ cs b, oj.op ≠ .select cs b := fun cs b => Region.noSelect_spec hsel x.1 oj cs b hoj
          have hstep := exchL (P := P) (ops := ops) (z := z) (F := fun b a w => wpD P ops (Q .normal) (pick ops B) (a.put fo.dst (flPtr b)) w) (oj := oj) (tj := x.2) (post := pick ops post) hsj st (pick ops pre) a w
            (by
              intro u hu
              obtain ⟨y, hy, hyz⟩ := List.mem_filterMap.1 hu
              obtain ⟨oy, hoy⟩ := Option.isSome_iff_exists.1 (hsome y (by simp [(hpre y hy).2.2]))
              rw [hoy] at hyz
              simp only [Option.map_some, Option.some.injEq] at hyz
              subst hyz
              refine ⟨?_, ?_, fun cs b => Region.noSelect_spec hsel y.1 oy cs b hoy⟩
              · cases hq : y.2 with
                | q => exact Or.inl rfl
                | p => exact Or.inr rfl
                | g => exact absurd ((hpre y hy).1.anc (by rw [hq]; rfl)) (hno y hy)
                | b => exact absurd ((hpre y hy).1.anc (by rw [hq]; rfl)) (hno y hy)
              · rcases (hpre y hy).1.apart with hd | hd
                · exact absurd (.one hd) (hno y hy)
                · unfold apartB at hd
                  rw [hoy, hoj] at hd
                  exact hd)
            (by
              have e : pick ops (rem A listed) = pick ops pre ++ (oj, x.2) :: pick ops post := by
                rw [hsplit]; unfold pick; simp [List.filterMap_append, hoj]
              rw [← e]; exact h)
          have hfx : fi ≠ x.1 := fun e => (hpf x hx').ne e
          have hrem' : rem A (listed.setIfInBounds x.1 true) = pre ++ post := by
            have hx1 : x.1 < listed.size := by rw [hid.size]; exact h1
            have e1 : rem A (listed.setIfInBounds x.1 true) = (rem A listed).filter fun y => y.1 != x.1 := by
              unfold rem
              rw [List.filter_filter]
              apply List.filter_congr
              intro y hy
              by_cases hyx : x.1 = y.1
              · rw [← hyx]; simp [hx1]
              · have hne : (y.1 != x.1) = true := by simpa using fun h => hyx h.symm
                rw [getD_set_ne true hyx, hne]; simp
            rw [e1, hsplit, List.filter_append, List.filter_cons]
            have hp : pre.filter (fun y => y.1 != x.1) = pre := List.filter_eq_self.2 fun y hy => by simpa using (hpre y hy).1.ne
            have hq : post.filter (fun y => y.1 != x.1) = post := List.filter_eq_self.2 fun y hy => by
              have := (List.pairwise_cons.1 hpc).1 y hy
              simpa using fun e => this.ne e.symm
            rw [hp, hq]; simp
          have hlen : (pre ++ post).length + 1 = (rem A listed).length := by rw [hsplit]; simp; omega
          have e2 : ∀ v w', wpL P ops z (fun b a w => wpD P ops (Q .normal) (pick ops B) (a.put fo.dst (flPtr b)) w) (pick ops pre ++ pick ops post) st (a.put oj.dst v) w' →
              wpAny P .any ops Q (B.length + m) (listed.setIfInBounds x.1 true) (realAct fo st (a.put oj.dst v)) w' := fun v w' hh =>
            ih _ st _ _ (by rw [hrem', getD_set_ne true (fun e => hfx e.symm)]; omega) (fun y hy => by rw [getD_set_ne true (hpX x hxA y hy).ne]; exact hBl y hy) (hset x.1 h3) (by rw [getD_set_ne true (fun e => hfx e.symm)]; exact hst)
              (by rw [hrem']; unfold pick at hh ⊢; rw [List.filterMap_append]; exact hh)
          have hapx := hap x hxA
          unfold apartB at hapx
          rw [hfo, hoj] at hapx
          obtain ⟨p1, p2, p3⟩ := Oper.apart_spec hapx
          refine wpOp_of_step hoj ?_
          cases st with
          | none =>
            show opStep P ops oj (fun v w' => wpAny P .any ops Q (B.length + m) (listed.setIfInBounds x.1 true) (a.put oj.dst v) w') a w
            unfold opStep at hstep ⊢
            split at hstep <;> rename_i hw <;> simp only [hw, if_true, if_false, Bool.false_eq_true]
            · exact givesUpon_mono hstep fun v w' hh => e2 v w' hh.2
            · exact e2 _ _ hstep.2
          | some b =>
            show opStep P ops oj (fun v w' => wpAny P .any ops Q (B.length + m) (listed.setIfInBounds x.1 true) ((a.put fo.dst (flPtr b)).put oj.dst v) w') (a.put fo.dst (flPtr b)) w
            unfold opStep at hstep ⊢
            rw [wanted_put oj a fo.dst (flPtr b) p1, execOp_put oj hsj a fo.dst (flPtr b) p1]
            split at hstep <;> rename_i hw <;> simp only [hw, if_true, if_false, Bool.false_eq_true]
            · exact givesUpon_mono hstep fun v w' hh => by rw [Act.put_comm a (flPtr b) v p2]; exact e2 v w' hh.2
            · rw [Act.put_comm a (flPtr b) undef p2]; exact e2 _ _ hstep.2
        · exfalso
          obtain ⟨ha1, ha2⟩ := hanc x hxB
          have hfl := hid.anc ha1 h3
          have hf1 : listed.getD fi true = true := by
            rw [getD_tf (by rw [hid.size]; exact hlt (fi, .p) (by simp))]; exact hfl
          refine hdn ⟨hf1, fun y hy => ?_⟩
          obtain ⟨hyA, hyl⟩ := List.mem_filter.1 hy
          cases hq : y.2 with
          | p => rfl
          | _ =>
            have := hid.anc (ha2 y hyA (by rw [hq]; decide)) h3
            rw [getD_tf (by rw [hid.size]; exact hlt y (by simp [hyA])), this] at hyl
            cases hyl

def toQ (l : List (Nat × Tag)) (t : Tag) : List (Nat × Tag) := l.map fun x => (x.1, if x.2 = .p then .p else t)
def toB (l : List (Nat × Tag)) : List (Nat × Tag) := l.map fun x => (x.1, .b)
/-- **The rule.** -/
theorem wp_region_fl {id : Nat} {Q : Exit → Act → World → Prop} {a : Act} {w : World} {l : List Oper} (fi : Nat) (A B : List (Nat × Tag)) (fo : Oper) (z : Obj) (hm : P.follows .mixedOrders = true)
    (hB : ordB l.toArray ((fi, .p) :: (A ++ B)) = true) (hB2 : ordB l.toArray ((fi, .q) :: (toQ A .q ++ toB B)) = true) (hA : (A.all fun x => x.2 != .b && apartB l.toArray fi x.1) = true) (hfo : l.toArray[fi]? = some fo)
    (hrun : ∀ (a : Act) (w : World), Region.wanted fo (yielded l.toArray a.tmps) = true ∧ (execOp a.eval fo).run P w = .ok (.value (flPtr w.heap.size)) (w.alloc z))
    (h : wpL P l.toArray z (fun b a w => wpD P l.toArray (Q .normal) (pick l.toArray B) (a.put fo.dst (flPtr b)) w) (pick l.toArray A) none a w.drew) : (Code.region id l.toArray true).wp P Q a w := by
  have hanc : ∀ y ∈ B, Anc l.toArray y.1 fi ∧ ∀ x ∈ A, x.2 ≠ .p → Anc l.toArray y.1 x.1 := by
    simp only [ordB, Bool.and_eq_true, beq_iff_eq] at hB2
    obtain ⟨hpw, _, _, _⟩ := ordFrom_spec _ [] hB2.2 (fun _ h => by cases h)
    obtain ⟨hpf, hpAB⟩ := List.pairwise_cons.1 hpw
    obtain ⟨_, _, hpX⟩ := List.pairwise_append.1 hpAB
    intro y hy
    have hyB : (y.1, Tag.b) ∈ toB B := List.mem_map.2 ⟨y, hy, rfl⟩
    exact ⟨(hpf (y.1, .b) (by simp [hyB])).anc rfl, fun x hx hxp => (hpX (x.1, .q) (List.mem_map.2 ⟨x, hx, by rw [if_neg hxp]⟩) (y.1, .b) hyB).anc rfl⟩
  simp only [ordB, Bool.and_eq_true, beq_iff_eq] at hB
  obtain ⟨⟨⟨hsel, hlen⟩, hcov⟩, hfrom⟩ := hB
  obtain ⟨hpw, _, hsome, htop⟩ := ordFrom_spec _ [] hfrom (fun _ h => by cases h)
  refine wp_region_any hm ?_
  have hun : ∀ y ∈ (fi, Tag.p) :: (A ++ B), (Array.replicate l.toArray.size false).getD y.1 true = false := fun y hy => by
    obtain ⟨o, ho⟩ := Option.isSome_iff_exists.1 (hsome y hy)
    have := (Array.getElem?_eq_some_iff.1 ho).1
    simp at this
    simp [this]
  have hremA : rem A (Array.replicate l.toArray.size false) = A := List.filter_eq_self.2 fun y hy => by rw [hun y (by simp [hy])]; rfl
  have hf0 := hun (fi, .p) (by simp)
  simp only at hf0
  have hs := fl_sound (P := P) (Q := Q) (z := z) fi fo A B hsel (fun i hi => by
    have := List.all_eq_true.1 hcov i (List.mem_range.2 hi)
    obtain ⟨x, hx, hxi⟩ := List.any_eq_true.1 this
    exact ⟨x, hx, by simpa using hxi⟩) hpw hsome (fun pre y post he d hd => by
      rcases htop pre y post he d hd with ⟨x, hx, _⟩ | hx
      · cases hx
      · exact hx) hfo (fun y hy => by have := List.all_eq_true.1 hA y hy; simp only [Bool.and_eq_true] at this; exact this.2) (fun y hy => by have := List.all_eq_true.1 hA y hy; simp only [Bool.and_eq_true, bne_iff_ne] at this; exact this.1) hanc hrun
    (A.length + 1) (Array.replicate l.toArray.size false) none a w.drew (by rw [hremA, hf0]; simp) (fun y hy => hun y (by simp [hy]))
      ⟨by simp, fun y hy => by
        rcases Nat.lt_or_ge y l.toArray.size with h | h
        · simp at h; simp [h] at hy
        · simp at h; simp [h] at hy⟩ (by rw [hf0]; rfl) (by rw [hremA]; exact h)
  have hn : B.length + (A.length + 1) = l.toArray.size := by
    rw [← hlen]; simp; omega
  rw [hn] at hs
  exact hs
end
end Go.Proofs.YthieodccakphiaaGreat
/- Rows of one type lie in no block of another type. -/


namespace Go.Proofs.YthieodccakphiaaGreat
theorem own_ne_row {w : World} {base : Nat} {e T : TypeId} {size : Nat} {v : Value} {n : Nat} {xs : List Value} {g N : Nat} {f : Nat → Value} (h : w.ownsRow base e size v n xs) (hr : w.rowIs g T N f) (hne : e ≠ T) : v.ownBlock ≠ some g := by
  rcases h.2 with ⟨rfl, _⟩ | ⟨g', cap, cur, rfl, _, hh, _⟩
  · intro hc
    cases hc
  · intro hc
    have hg : some g' = some g := hc
    injection hg with hg
    subst hg
    obtain ⟨cur', hh', _⟩ := hr
    have := Option.some.inj (hh.symm.trans hh')
    injection this with _ h3
    exact hne h3
theorem mkRow_hi {w : World} {base size n c hi : Nat} {e : TypeId} {A : Option Addr} {xs : List Value} (h : w.ownsRow base e size (.slice A n c) n xs) (hh : ∀ g, (Value.slice A n c).ownBlock = some g → g < hi) : MkRow e size base hi w A n := fun hn => by
  obtain ⟨g, N, f, h1, h2, _, h4, h5⟩ := mkRow_of_owns h hn
  exact ⟨g, N, f, h1, h2, hh g (by subst h1; rfl), h4, h5⟩
end Go.Proofs.YthieodccakphiaaGreat
/- A block that lies on either side of the marks keeps its cells. -/

namespace Go.Proofs.YthieodccakphiaaGreat
theorem Mk.either {lo hi k : Nat} {w w' : World} (h : Mk lo hi w w') (hk : k < lo ∨ hi ≤ k) (hlt : k < w.heap.size) : w'.heap[k]? = w.heap[k]? :=
  hk.elim (fun h1 => h.below.block k h1) (fun h1 => h.keep k h1 hlt)
end Go.Proofs.YthieodccakphiaaGreat
/- Walk: the law FnExactAttach. -/













namespace Go.Proofs.YthieodccakphiaaGreat
open Go.RowKit
attribute [local go_sem] BelowBy.cell BelowBy.cell_drew stillUpon givesUpon BelowBy.cell_drew2 BelowBy.cell_drew3

set_option maxRecDepth 100000 in
set_option maxHeartbeats 4000000 in
theorem FnExactAttach_any (G : Option Addr) (n cg : Nat) (gs : List Gl) (T : Option Addr) (m ct : Nat) (ts : List Ti) (A : Option Addr) (q ca : Nat) (xs : List Pl) (t : Int) (C : Option Addr) (nb cb : Nat) (ys : List Pl) (x y ti : Int) (w : World) (hG : RdSl 2 RGl w G n gs) (hT : RdSl 2 RTi w T m ts) (hln : n ≤ 9223372036854775807) (hlm : m ≤ 9223372036854775807) (hgn : ∀ e ∈ gs, e.name.size ≤ 9223372036854775807) (htn : ∀ e ∈ ts, e.name.size ≤ 9223372036854775807 ∧ e.sides.length ≤ 9223372036854775807) (hA : RdSl 3 RPl w A q xs) (hlq : q ≤ 9223372036854775807) (hC : RdSl 3 RPl w C nb ys) (hlnb : nb ≤ 9223372036854775807)  :
    Calls Tryz.prog 4 #[.agg #[.slice G n cg, .slice T m ct, .slice A q ca, .int .i64 t], .agg #[.slice C nb cb], .agg #[.int .i64 x, .int .i64 y, .int .i64 ti]] w fun e w' => e = .returned (.bool true) ∧ Below w.heap.size w w' := by
  have hgnH := Lib.hid hgn
  have htnH := Lib.hid htn
  have hgk := Lib.hid (fun (k : Nat) (e : Gl) (h : gs[k]? = some e) => hgn e (List.mem_of_getElem? h))
  have htk := Lib.hid (fun (k : Nat) (e : Ti) (h : ts[k]? = some e) => htn e (List.mem_of_getElem? h))
  clear hgn htn
  have hRl := Lib.hid (attR_len gs ts xs t ys x y ti)
  go_enter Tryz.func4, Tryz.ntmps4
  have kw := bl_refl w
  go_wp2_with fail
  refine (szSystem_any _ _ _ _ _ _ _ _ _ gs ts _ _ _ (hG.below RGl.stable bk_) (hT.below RTi.stable bk_) (by omega) (by omega) hln hlm hgnH.out htnH.out hlq).mono ?_
  rintro e w1 ⟨r1, rfl, (rfl | ⟨hr10, hr11, ⟨⟨hzn, hx1⟩, hzm, hx2⟩, hzq⟩), hb1⟩
  · go_wp2
    go_ret
    exact ⟨rfl, bl_tr bk_ hb1⟩
  have htsH := Lib.hid (show ∀ e ∈ ts, e.sides.length ≤ 1073741824 from fun e he => by have := (hx2 e he).2; omega)
  clear hx1 hx2
  have s1 : w.heap.size + 3 ≤ w1.heap.size := by have := hb1.size; (try simp at this); omega
  have s1H := Lib.hid s1
  have kw_1 : Below w.heap.size w w1 := bl_tr bk_ hb1
  have lb0_1 : w.heap.size < w1.heap.size := Nat.lt_of_lt_of_le (by go_simp) hb1.size
  have yb0_0_1 : w1.cell? ⟨w.heap.size, 0, none⟩ = some (.slice G n cg) := (hb1.cell (p := ⟨w.heap.size, 0, none⟩) (by go_simp)).trans (by go_simp)
  have yb0_1_1 : w1.cell? ⟨w.heap.size, 1, none⟩ = some (.slice T m ct) := (hb1.cell (p := ⟨w.heap.size, 1, none⟩) (by go_simp)).trans (by go_simp)
  have yb0_2_1 : w1.cell? ⟨w.heap.size, 2, none⟩ = some (.slice A q ca) := (hb1.cell (p := ⟨w.heap.size, 2, none⟩) (by go_simp)).trans (by go_simp)
  have yb0_3_1 : w1.cell? ⟨w.heap.size, 3, none⟩ = some (.int .i64 t) := (hb1.cell (p := ⟨w.heap.size, 3, none⟩) (by go_simp)).trans (by go_simp)
  have lb1_1 : w.heap.size + 1 < w1.heap.size := Nat.lt_of_lt_of_le (by go_simp) hb1.size
  have yb1_0_1 : w1.cell? ⟨w.heap.size + 1, 0, none⟩ = some (.slice C nb cb) := (hb1.cell (p := ⟨w.heap.size + 1, 0, none⟩) (by go_simp)).trans (by go_simp)
  have lb2_1 : w.heap.size + 2 < w1.heap.size := Nat.lt_of_lt_of_le (by go_simp) hb1.size
  have yb2_0_1 : w1.cell? ⟨w.heap.size + 2, 0, none⟩ = some (.int .i64 x) := (hb1.cell (p := ⟨w.heap.size + 2, 0, none⟩) (by go_simp)).trans (by go_simp)
  have yb2_1_1 : w1.cell? ⟨w.heap.size + 2, 1, none⟩ = some (.int .i64 y) := (hb1.cell (p := ⟨w.heap.size + 2, 1, none⟩) (by go_simp)).trans (by go_simp)
  have yb2_2_1 : w1.cell? ⟨w.heap.size + 2, 2, none⟩ = some (.int .i64 ti) := (hb1.cell (p := ⟨w.heap.size + 2, 2, none⟩) (by go_simp)).trans (by go_simp)
  clear kw s1
  clear hb1
  go_wp2_with fail
  refine (szAssembly_any _ _ _ _ _ (by omega) (by omega) hlnb).mono ?_
  rintro e w2 ⟨r2, rfl, (rfl | ⟨hr20, hr21, hznb⟩), hb2⟩
  · go_wp2
    go_ret
    exact ⟨rfl, bl_tr bk_ hb2⟩
  have s2 : w1.heap.size ≤ w2.heap.size := by have := hb2.size; (try simp at this); omega
  have s2H := Lib.hid s2
  have kw_2 : Below w.heap.size w w2 := bl_tr bk_ hb2
  have lb0_2 : w.heap.size < w2.heap.size := Nat.lt_of_lt_of_le (by go_simp) hb2.size
  have yb0_0_2 : w2.cell? ⟨w.heap.size, 0, none⟩ = some (.slice G n cg) := (hb2.cell (p := ⟨w.heap.size, 0, none⟩) (by go_simp)).trans (by go_simp)
  have yb0_1_2 : w2.cell? ⟨w.heap.size, 1, none⟩ = some (.slice T m ct) := (hb2.cell (p := ⟨w.heap.size, 1, none⟩) (by go_simp)).trans (by go_simp)
  have yb0_2_2 : w2.cell? ⟨w.heap.size, 2, none⟩ = some (.slice A q ca) := (hb2.cell (p := ⟨w.heap.size, 2, none⟩) (by go_simp)).trans (by go_simp)
  have yb0_3_2 : w2.cell? ⟨w.heap.size, 3, none⟩ = some (.int .i64 t) := (hb2.cell (p := ⟨w.heap.size, 3, none⟩) (by go_simp)).trans (by go_simp)
  have lb1_2 : w.heap.size + 1 < w2.heap.size := Nat.lt_of_lt_of_le (by go_simp) hb2.size
  have yb1_0_2 : w2.cell? ⟨w.heap.size + 1, 0, none⟩ = some (.slice C nb cb) := (hb2.cell (p := ⟨w.heap.size + 1, 0, none⟩) (by go_simp)).trans (by go_simp)
  have lb2_2 : w.heap.size + 2 < w2.heap.size := Nat.lt_of_lt_of_le (by go_simp) hb2.size
  have yb2_0_2 : w2.cell? ⟨w.heap.size + 2, 0, none⟩ = some (.int .i64 x) := (hb2.cell (p := ⟨w.heap.size + 2, 0, none⟩) (by go_simp)).trans (by go_simp)
  have yb2_1_2 : w2.cell? ⟨w.heap.size + 2, 1, none⟩ = some (.int .i64 y) := (hb2.cell (p := ⟨w.heap.size + 2, 1, none⟩) (by go_simp)).trans (by go_simp)
  have yb2_2_2 : w2.cell? ⟨w.heap.size + 2, 2, none⟩ = some (.int .i64 ti) := (hb2.cell (p := ⟨w.heap.size + 2, 2, none⟩) (by go_simp)).trans (by go_simp)
  clear yb2_2_1 yb2_1_1 yb2_0_1 lb2_1 yb1_0_1 lb1_1 yb0_3_1 yb0_2_1 yb0_1_1 yb0_0_1 lb0_1 kw_1 s2
  clear hb2
  have kR3 : Below w2.heap.size w2 w2 := bl_refl _
  go_wp2_with fail
  refine wp_region_fl 10 [(0, .q), (2, .q), (4, .q), (1, .g), (3, .g), (5, .g), (6, .g), (7, .q), (8, .q), (9, .p)] [(11, .b), (12, .q)] _ (Obj.cells #[.slice none 0 0] 40) (by kernel_rfl) (by kernel_rfl) (by kernel_rfl) (by kernel_rfl) rfl (fun a w => ⟨rfl, by unfold flPtr; go_simp⟩) ?_
  simp only [pick, List.filterMap_cons, List.filterMap_nil, List.getElem?_toArray, List.getElem?_cons_zero, List.getElem?_cons_succ, Option.map_some]
  repeat (first | ((with_reducible refine wpL_p (fun K hK => ?_)); go_simp; refine hK _ ?_; clear hK K) | ((with_reducible refine wpL_q (fun K hK => ?_)); go_simp; (first | refine hK _ ?_ | (go_bits; refine hK _ ?_) | (go_bits; go_simp; refine hK _ ?_)); clear hK K))
  with_reducible refine wpL_g rfl (fun K hK st4 w4u mv4 => ?_)
  have hu4 := mv4.below
  have fu4 := (FlAt.none (Obj.cells #[.slice none 0 0] 40) (World.drew _)).mv mv4
  have Hmv4 := Lib.hid mv4
  clear mv4
  have s3 : w2.heap.size ≤ w4u.heap.size := by have := hu4.size; (try simp at this); omega
  have s3H := Lib.hid s3
  have kw_3 : Below w.heap.size w w4u := bl_tr bk_ hu4
  have kR3_3 : Below w2.heap.size w2 w4u := bl_tr bk_ hu4
  have lb0_3 : w.heap.size < w4u.heap.size := Nat.lt_of_lt_of_le (by go_simp) hu4.size
  have yb0_0_3 : w4u.cell? ⟨w.heap.size, 0, none⟩ = some (.slice G n cg) := (hu4.cell (p := ⟨w.heap.size, 0, none⟩) (by go_simp)).trans (by go_simp)
  have yb0_1_3 : w4u.cell? ⟨w.heap.size, 1, none⟩ = some (.slice T m ct) := (hu4.cell (p := ⟨w.heap.size, 1, none⟩) (by go_simp)).trans (by go_simp)
  have yb0_2_3 : w4u.cell? ⟨w.heap.size, 2, none⟩ = some (.slice A q ca) := (hu4.cell (p := ⟨w.heap.size, 2, none⟩) (by go_simp)).trans (by go_simp)
  have yb0_3_3 : w4u.cell? ⟨w.heap.size, 3, none⟩ = some (.int .i64 t) := (hu4.cell (p := ⟨w.heap.size, 3, none⟩) (by go_simp)).trans (by go_simp)
  have lb1_3 : w.heap.size + 1 < w4u.heap.size := Nat.lt_of_lt_of_le (by go_simp) hu4.size
  have yb1_0_3 : w4u.cell? ⟨w.heap.size + 1, 0, none⟩ = some (.slice C nb cb) := (hu4.cell (p := ⟨w.heap.size + 1, 0, none⟩) (by go_simp)).trans (by go_simp)
  have lb2_3 : w.heap.size + 2 < w4u.heap.size := Nat.lt_of_lt_of_le (by go_simp) hu4.size
  have yb2_0_3 : w4u.cell? ⟨w.heap.size + 2, 0, none⟩ = some (.int .i64 x) := (hu4.cell (p := ⟨w.heap.size + 2, 0, none⟩) (by go_simp)).trans (by go_simp)
  have yb2_1_3 : w4u.cell? ⟨w.heap.size + 2, 1, none⟩ = some (.int .i64 y) := (hu4.cell (p := ⟨w.heap.size + 2, 1, none⟩) (by go_simp)).trans (by go_simp)
  have yb2_2_3 : w4u.cell? ⟨w.heap.size + 2, 2, none⟩ = some (.int .i64 ti) := (hu4.cell (p := ⟨w.heap.size + 2, 2, none⟩) (by go_simp)).trans (by go_simp)
  go_simp
  refine (toSystemM_any _ _ _ _ _ _ _ _ _ gs ts xs _ _ (hG.below RGl.stable bk_) (hT.below RTi.stable bk_) (hA.below RPl.stable bk_) (by omega) (by omega) htsH.out (by omega)).mono ?_
  rintro e w4 ⟨G4, T4, A4, md4, rfl, o4, p4, z4, ms4, hb4⟩
  refine ⟨_, rfl, hb4, hK _ _ _ ?_⟩
  clear hK K
  have fd4 := fu4.below hb4
  have s4 : w4u.heap.size ≤ w4.heap.size := by have := hb4.size; (try simp at this); omega
  have s4H := Lib.hid s4
  have kw_4 : Below w.heap.size w w4 := bl_tr bk_ hb4
  have kR3_4 : Below w2.heap.size w2 w4 := bl_tr bk_ hb4
  have lb0_4 : w.heap.size < w4.heap.size := Nat.lt_of_lt_of_le (by go_simp) hb4.size
  have yb0_0_4 : w4.cell? ⟨w.heap.size, 0, none⟩ = some (.slice G n cg) := (hb4.cell (p := ⟨w.heap.size, 0, none⟩) (by go_simp)).trans (by go_simp)
  have yb0_1_4 : w4.cell? ⟨w.heap.size, 1, none⟩ = some (.slice T m ct) := (hb4.cell (p := ⟨w.heap.size, 1, none⟩) (by go_simp)).trans (by go_simp)
  have yb0_2_4 : w4.cell? ⟨w.heap.size, 2, none⟩ = some (.slice A q ca) := (hb4.cell (p := ⟨w.heap.size, 2, none⟩) (by go_simp)).trans (by go_simp)
  have yb0_3_4 : w4.cell? ⟨w.heap.size, 3, none⟩ = some (.int .i64 t) := (hb4.cell (p := ⟨w.heap.size, 3, none⟩) (by go_simp)).trans (by go_simp)
  have lb1_4 : w.heap.size + 1 < w4.heap.size := Nat.lt_of_lt_of_le (by go_simp) hb4.size
  have yb1_0_4 : w4.cell? ⟨w.heap.size + 1, 0, none⟩ = some (.slice C nb cb) := (hb4.cell (p := ⟨w.heap.size + 1, 0, none⟩) (by go_simp)).trans (by go_simp)
  have lb2_4 : w.heap.size + 2 < w4.heap.size := Nat.lt_of_lt_of_le (by go_simp) hb4.size
  have yb2_0_4 : w4.cell? ⟨w.heap.size + 2, 0, none⟩ = some (.int .i64 x) := (hb4.cell (p := ⟨w.heap.size + 2, 0, none⟩) (by go_simp)).trans (by go_simp)
  have yb2_1_4 : w4.cell? ⟨w.heap.size + 2, 1, none⟩ = some (.int .i64 y) := (hb4.cell (p := ⟨w.heap.size + 2, 1, none⟩) (by go_simp)).trans (by go_simp)
  have yb2_2_4 : w4.cell? ⟨w.heap.size + 2, 2, none⟩ = some (.int .i64 ti) := (hb4.cell (p := ⟨w.heap.size + 2, 2, none⟩) (by go_simp)).trans (by go_simp)
  clear hb4
  have kc4 : Below w4.heap.size w4 w4 := bl_refl _
  have o4H := Lib.hid o4
  clear o4
  have p4H := Lib.hid p4
  clear p4
  have z4H := Lib.hid z4
  clear z4
  have ms4H := Lib.hid ms4
  clear ms4
  with_reducible refine wpL_g rfl (fun K hK st5 w5u mv5 => ?_)
  have hu5 := mv5.below
  have fu5 := fd4.mv mv5
  have Hmv5 := Lib.hid mv5
  clear mv5
  have s5 : w4.heap.size ≤ w5u.heap.size := by have := hu5.size; (try simp at this); omega
  have s5H := Lib.hid s5
  have kw_5 : Below w.heap.size w w5u := bl_tr bk_ hu5
  have kR3_5 : Below w2.heap.size w2 w5u := bl_tr bk_ hu5
  have kc4_5 : Below w4.heap.size w4 w5u := bl_tr bk_ hu5
  have lb0_5 : w.heap.size < w5u.heap.size := Nat.lt_of_lt_of_le (by go_simp) hu5.size
  have yb0_0_5 : w5u.cell? ⟨w.heap.size, 0, none⟩ = some (.slice G n cg) := (hu5.cell (p := ⟨w.heap.size, 0, none⟩) (by go_simp)).trans (by go_simp)
  have yb0_1_5 : w5u.cell? ⟨w.heap.size, 1, none⟩ = some (.slice T m ct) := (hu5.cell (p := ⟨w.heap.size, 1, none⟩) (by go_simp)).trans (by go_simp)
  have yb0_2_5 : w5u.cell? ⟨w.heap.size, 2, none⟩ = some (.slice A q ca) := (hu5.cell (p := ⟨w.heap.size, 2, none⟩) (by go_simp)).trans (by go_simp)
  have yb0_3_5 : w5u.cell? ⟨w.heap.size, 3, none⟩ = some (.int .i64 t) := (hu5.cell (p := ⟨w.heap.size, 3, none⟩) (by go_simp)).trans (by go_simp)
  have lb1_5 : w.heap.size + 1 < w5u.heap.size := Nat.lt_of_lt_of_le (by go_simp) hu5.size
  have yb1_0_5 : w5u.cell? ⟨w.heap.size + 1, 0, none⟩ = some (.slice C nb cb) := (hu5.cell (p := ⟨w.heap.size + 1, 0, none⟩) (by go_simp)).trans (by go_simp)
  have lb2_5 : w.heap.size + 2 < w5u.heap.size := Nat.lt_of_lt_of_le (by go_simp) hu5.size
  have yb2_0_5 : w5u.cell? ⟨w.heap.size + 2, 0, none⟩ = some (.int .i64 x) := (hu5.cell (p := ⟨w.heap.size + 2, 0, none⟩) (by go_simp)).trans (by go_simp)
  have yb2_1_5 : w5u.cell? ⟨w.heap.size + 2, 1, none⟩ = some (.int .i64 y) := (hu5.cell (p := ⟨w.heap.size + 2, 1, none⟩) (by go_simp)).trans (by go_simp)
  have yb2_2_5 : w5u.cell? ⟨w.heap.size + 2, 2, none⟩ = some (.int .i64 ti) := (hu5.cell (p := ⟨w.heap.size + 2, 2, none⟩) (by go_simp)).trans (by go_simp)
  go_simp
  refine (toAssembly_any _ _ _ ys _ (hC.below RPl.stable bk_) (by omega)).mono ?_
  rintro e w5 ⟨A5, rfl, o5, hb5⟩
  refine ⟨_, rfl, hb5, hK _ _ _ ?_⟩
  clear hK K
  have fd5 := fu5.below hb5
  have s6 : w5u.heap.size ≤ w5.heap.size := by have := hb5.size; (try simp at this); omega
  have s6H := Lib.hid s6
  have kw_6 : Below w.heap.size w w5 := bl_tr bk_ hb5
  have kR3_6 : Below w2.heap.size w2 w5 := bl_tr bk_ hb5
  have kc4_6 : Below w4.heap.size w4 w5 := bl_tr bk_ hb5
  have lb0_6 : w.heap.size < w5.heap.size := Nat.lt_of_lt_of_le (by go_simp) hb5.size
  have yb0_0_6 : w5.cell? ⟨w.heap.size, 0, none⟩ = some (.slice G n cg) := (hb5.cell (p := ⟨w.heap.size, 0, none⟩) (by go_simp)).trans (by go_simp)
  have yb0_1_6 : w5.cell? ⟨w.heap.size, 1, none⟩ = some (.slice T m ct) := (hb5.cell (p := ⟨w.heap.size, 1, none⟩) (by go_simp)).trans (by go_simp)
  have yb0_2_6 : w5.cell? ⟨w.heap.size, 2, none⟩ = some (.slice A q ca) := (hb5.cell (p := ⟨w.heap.size, 2, none⟩) (by go_simp)).trans (by go_simp)
  have yb0_3_6 : w5.cell? ⟨w.heap.size, 3, none⟩ = some (.int .i64 t) := (hb5.cell (p := ⟨w.heap.size, 3, none⟩) (by go_simp)).trans (by go_simp)
  have lb1_6 : w.heap.size + 1 < w5.heap.size := Nat.lt_of_lt_of_le (by go_simp) hb5.size
  have yb1_0_6 : w5.cell? ⟨w.heap.size + 1, 0, none⟩ = some (.slice C nb cb) := (hb5.cell (p := ⟨w.heap.size + 1, 0, none⟩) (by go_simp)).trans (by go_simp)
  have lb2_6 : w.heap.size + 2 < w5.heap.size := Nat.lt_of_lt_of_le (by go_simp) hb5.size
  have yb2_0_6 : w5.cell? ⟨w.heap.size + 2, 0, none⟩ = some (.int .i64 x) := (hb5.cell (p := ⟨w.heap.size + 2, 0, none⟩) (by go_simp)).trans (by go_simp)
  have yb2_1_6 : w5.cell? ⟨w.heap.size + 2, 1, none⟩ = some (.int .i64 y) := (hb5.cell (p := ⟨w.heap.size + 2, 1, none⟩) (by go_simp)).trans (by go_simp)
  have yb2_2_6 : w5.cell? ⟨w.heap.size + 2, 2, none⟩ = some (.int .i64 ti) := (hb5.cell (p := ⟨w.heap.size + 2, 2, none⟩) (by go_simp)).trans (by go_simp)
  clear hb5
  have kc5 : Below w5.heap.size w5 w5 := bl_refl _
  have o5H := Lib.hid o5
  clear o5
  with_reducible refine wpL_g rfl (fun K hK st6 w6u mv6 => ?_)
  have hu6 := mv6.below
  have fu6 := fd5.mv mv6
  have Hmv6 := Lib.hid mv6
  clear mv6
  have s7 : w5.heap.size ≤ w6u.heap.size := by have := hu6.size; (try simp at this); omega
  have s7H := Lib.hid s7
  have kw_7 : Below w.heap.size w w6u := bl_tr bk_ hu6
  have kR3_7 : Below w2.heap.size w2 w6u := bl_tr bk_ hu6
  have kc4_7 : Below w4.heap.size w4 w6u := bl_tr bk_ hu6
  have kc5_7 : Below w5.heap.size w5 w6u := bl_tr bk_ hu6
  have lb0_7 : w.heap.size < w6u.heap.size := Nat.lt_of_lt_of_le (by go_simp) hu6.size
  have yb0_0_7 : w6u.cell? ⟨w.heap.size, 0, none⟩ = some (.slice G n cg) := (hu6.cell (p := ⟨w.heap.size, 0, none⟩) (by go_simp)).trans (by go_simp)
  have yb0_1_7 : w6u.cell? ⟨w.heap.size, 1, none⟩ = some (.slice T m ct) := (hu6.cell (p := ⟨w.heap.size, 1, none⟩) (by go_simp)).trans (by go_simp)
  have yb0_2_7 : w6u.cell? ⟨w.heap.size, 2, none⟩ = some (.slice A q ca) := (hu6.cell (p := ⟨w.heap.size, 2, none⟩) (by go_simp)).trans (by go_simp)
  have yb0_3_7 : w6u.cell? ⟨w.heap.size, 3, none⟩ = some (.int .i64 t) := (hu6.cell (p := ⟨w.heap.size, 3, none⟩) (by go_simp)).trans (by go_simp)
  have lb1_7 : w.heap.size + 1 < w6u.heap.size := Nat.lt_of_lt_of_le (by go_simp) hu6.size
  have yb1_0_7 : w6u.cell? ⟨w.heap.size + 1, 0, none⟩ = some (.slice C nb cb) := (hu6.cell (p := ⟨w.heap.size + 1, 0, none⟩) (by go_simp)).trans (by go_simp)
  have lb2_7 : w.heap.size + 2 < w6u.heap.size := Nat.lt_of_lt_of_le (by go_simp) hu6.size
  have yb2_0_7 : w6u.cell? ⟨w.heap.size + 2, 0, none⟩ = some (.int .i64 x) := (hu6.cell (p := ⟨w.heap.size + 2, 0, none⟩) (by go_simp)).trans (by go_simp)
  have yb2_1_7 : w6u.cell? ⟨w.heap.size + 2, 1, none⟩ = some (.int .i64 y) := (hu6.cell (p := ⟨w.heap.size + 2, 1, none⟩) (by go_simp)).trans (by go_simp)
  have yb2_2_7 : w6u.cell? ⟨w.heap.size + 2, 2, none⟩ = some (.int .i64 ti) := (hu6.cell (p := ⟨w.heap.size + 2, 2, none⟩) (by go_simp)).trans (by go_simp)
  go_simp
  refine (toOption_any _ _ _ _).mono ?_
  rintro e w6 ⟨rfl, hb6⟩
  refine ⟨_, rfl, hb6, hK _ _ _ ?_⟩
  clear hK K
  have fd6 := fu6.below hb6
  have s8 : w6u.heap.size ≤ w6.heap.size := by have := hb6.size; (try simp at this); omega
  have s8H := Lib.hid s8
  have kw_8 : Below w.heap.size w w6 := bl_tr bk_ hb6
  have kR3_8 : Below w2.heap.size w2 w6 := bl_tr bk_ hb6
  have kc4_8 : Below w4.heap.size w4 w6 := bl_tr bk_ hb6
  have kc5_8 : Below w5.heap.size w5 w6 := bl_tr bk_ hb6
  have lb0_8 : w.heap.size < w6.heap.size := Nat.lt_of_lt_of_le (by go_simp) hb6.size
  have yb0_0_8 : w6.cell? ⟨w.heap.size, 0, none⟩ = some (.slice G n cg) := (hb6.cell (p := ⟨w.heap.size, 0, none⟩) (by go_simp)).trans (by go_simp)
  have yb0_1_8 : w6.cell? ⟨w.heap.size, 1, none⟩ = some (.slice T m ct) := (hb6.cell (p := ⟨w.heap.size, 1, none⟩) (by go_simp)).trans (by go_simp)
  have yb0_2_8 : w6.cell? ⟨w.heap.size, 2, none⟩ = some (.slice A q ca) := (hb6.cell (p := ⟨w.heap.size, 2, none⟩) (by go_simp)).trans (by go_simp)
  have yb0_3_8 : w6.cell? ⟨w.heap.size, 3, none⟩ = some (.int .i64 t) := (hb6.cell (p := ⟨w.heap.size, 3, none⟩) (by go_simp)).trans (by go_simp)
  have lb1_8 : w.heap.size + 1 < w6.heap.size := Nat.lt_of_lt_of_le (by go_simp) hb6.size
  have yb1_0_8 : w6.cell? ⟨w.heap.size + 1, 0, none⟩ = some (.slice C nb cb) := (hb6.cell (p := ⟨w.heap.size + 1, 0, none⟩) (by go_simp)).trans (by go_simp)
  have lb2_8 : w.heap.size + 2 < w6.heap.size := Nat.lt_of_lt_of_le (by go_simp) hb6.size
  have yb2_0_8 : w6.cell? ⟨w.heap.size + 2, 0, none⟩ = some (.int .i64 x) := (hb6.cell (p := ⟨w.heap.size + 2, 0, none⟩) (by go_simp)).trans (by go_simp)
  have yb2_1_8 : w6.cell? ⟨w.heap.size + 2, 1, none⟩ = some (.int .i64 y) := (hb6.cell (p := ⟨w.heap.size + 2, 1, none⟩) (by go_simp)).trans (by go_simp)
  have yb2_2_8 : w6.cell? ⟨w.heap.size + 2, 2, none⟩ = some (.int .i64 ti) := (hb6.cell (p := ⟨w.heap.size + 2, 2, none⟩) (by go_simp)).trans (by go_simp)
  clear hb6
  with_reducible refine wpL_g rfl (fun K hK st7 w7u mv7 => ?_)
  have hu7 := mv7.below
  have fu7 := fd6.mv mv7
  have Hmv7 := Lib.hid mv7
  clear mv7
  have s9 : w6.heap.size ≤ w7u.heap.size := by have := hu7.size; (try simp at this); omega
  have s9H := Lib.hid s9
  have kw_9 : Below w.heap.size w w7u := bl_tr bk_ hu7
  have kR3_9 : Below w2.heap.size w2 w7u := bl_tr bk_ hu7
  have kc4_9 : Below w4.heap.size w4 w7u := bl_tr bk_ hu7
  have kc5_9 : Below w5.heap.size w5 w7u := bl_tr bk_ hu7
  have lb0_9 : w.heap.size < w7u.heap.size := Nat.lt_of_lt_of_le (by go_simp) hu7.size
  have yb0_0_9 : w7u.cell? ⟨w.heap.size, 0, none⟩ = some (.slice G n cg) := (hu7.cell (p := ⟨w.heap.size, 0, none⟩) (by go_simp)).trans (by go_simp)
  have yb0_1_9 : w7u.cell? ⟨w.heap.size, 1, none⟩ = some (.slice T m ct) := (hu7.cell (p := ⟨w.heap.size, 1, none⟩) (by go_simp)).trans (by go_simp)
  have yb0_2_9 : w7u.cell? ⟨w.heap.size, 2, none⟩ = some (.slice A q ca) := (hu7.cell (p := ⟨w.heap.size, 2, none⟩) (by go_simp)).trans (by go_simp)
  have yb0_3_9 : w7u.cell? ⟨w.heap.size, 3, none⟩ = some (.int .i64 t) := (hu7.cell (p := ⟨w.heap.size, 3, none⟩) (by go_simp)).trans (by go_simp)
  have lb1_9 : w.heap.size + 1 < w7u.heap.size := Nat.lt_of_lt_of_le (by go_simp) hu7.size
  have yb1_0_9 : w7u.cell? ⟨w.heap.size + 1, 0, none⟩ = some (.slice C nb cb) := (hu7.cell (p := ⟨w.heap.size + 1, 0, none⟩) (by go_simp)).trans (by go_simp)
  have lb2_9 : w.heap.size + 2 < w7u.heap.size := Nat.lt_of_lt_of_le (by go_simp) hu7.size
  have yb2_0_9 : w7u.cell? ⟨w.heap.size + 2, 0, none⟩ = some (.int .i64 x) := (hu7.cell (p := ⟨w.heap.size + 2, 0, none⟩) (by go_simp)).trans (by go_simp)
  have yb2_1_9 : w7u.cell? ⟨w.heap.size + 2, 1, none⟩ = some (.int .i64 y) := (hu7.cell (p := ⟨w.heap.size + 2, 1, none⟩) (by go_simp)).trans (by go_simp)
  have yb2_2_9 : w7u.cell? ⟨w.heap.size + 2, 2, none⟩ = some (.int .i64 ti) := (hu7.cell (p := ⟨w.heap.size + 2, 2, none⟩) (by go_simp)).trans (by go_simp)
  go_simp
  refine (sAttach_any _ _ _ _ _ _ _ _ _ _ _ _ gs ts xs ys _ x y ti _ ⟨o4H.out.rd.below RGl.stable bk_, p4H.out.rdTi.below RTi.stable bk_, z4H.out.rd.below RPl.stable bk_, by omega, by omega, by omega, hgk.out, htk.out⟩ ⟨o4H.out.rd.below RGl.stable bk_, p4H.out.rdTi.below RTi.stable bk_, o5H.out.rd.below RPl.stable bk_, by omega, by omega, by omega, hgk.out, htk.out⟩).mono ?_
  rintro e w7 ⟨V7, c7, rfl, v7, hb7⟩
  refine ⟨_, rfl, hb7, hK _ _ _ ?_⟩
  clear hK K
  have fd7 := fu7.below hb7
  have s10 : w7u.heap.size ≤ w7.heap.size := by have := hb7.size; (try simp at this); omega
  have s10H := Lib.hid s10
  have kw_10 : Below w.heap.size w w7 := bl_tr bk_ hb7
  have kR3_10 : Below w2.heap.size w2 w7 := bl_tr bk_ hb7
  have kc4_10 : Below w4.heap.size w4 w7 := bl_tr bk_ hb7
  have kc5_10 : Below w5.heap.size w5 w7 := bl_tr bk_ hb7
  have lb0_10 : w.heap.size < w7.heap.size := Nat.lt_of_lt_of_le (by go_simp) hb7.size
  have yb0_0_10 : w7.cell? ⟨w.heap.size, 0, none⟩ = some (.slice G n cg) := (hb7.cell (p := ⟨w.heap.size, 0, none⟩) (by go_simp)).trans (by go_simp)
  have yb0_1_10 : w7.cell? ⟨w.heap.size, 1, none⟩ = some (.slice T m ct) := (hb7.cell (p := ⟨w.heap.size, 1, none⟩) (by go_simp)).trans (by go_simp)
  have yb0_2_10 : w7.cell? ⟨w.heap.size, 2, none⟩ = some (.slice A q ca) := (hb7.cell (p := ⟨w.heap.size, 2, none⟩) (by go_simp)).trans (by go_simp)
  have yb0_3_10 : w7.cell? ⟨w.heap.size, 3, none⟩ = some (.int .i64 t) := (hb7.cell (p := ⟨w.heap.size, 3, none⟩) (by go_simp)).trans (by go_simp)
  have lb1_10 : w.heap.size + 1 < w7.heap.size := Nat.lt_of_lt_of_le (by go_simp) hb7.size
  have yb1_0_10 : w7.cell? ⟨w.heap.size + 1, 0, none⟩ = some (.slice C nb cb) := (hb7.cell (p := ⟨w.heap.size + 1, 0, none⟩) (by go_simp)).trans (by go_simp)
  have lb2_10 : w.heap.size + 2 < w7.heap.size := Nat.lt_of_lt_of_le (by go_simp) hb7.size
  have yb2_0_10 : w7.cell? ⟨w.heap.size + 2, 0, none⟩ = some (.int .i64 x) := (hb7.cell (p := ⟨w.heap.size + 2, 0, none⟩) (by go_simp)).trans (by go_simp)
  have yb2_1_10 : w7.cell? ⟨w.heap.size + 2, 1, none⟩ = some (.int .i64 y) := (hb7.cell (p := ⟨w.heap.size + 2, 1, none⟩) (by go_simp)).trans (by go_simp)
  have yb2_2_10 : w7.cell? ⟨w.heap.size + 2, 2, none⟩ = some (.int .i64 ti) := (hb7.cell (p := ⟨w.heap.size + 2, 2, none⟩) (by go_simp)).trans (by go_simp)
  clear hb7
  have kr7 : Below w7.heap.size w7 w7 := bl_refl _
  have v7H := Lib.hid v7
  clear v7
  repeat (first | ((with_reducible refine wpL_p (fun K hK => ?_)); go_simp; refine hK _ ?_; clear hK K) | ((with_reducible refine wpL_q (fun K hK => ?_)); go_simp; (first | refine hK _ ?_ | (go_bits; refine hK _ ?_) | (go_bits; go_simp; refine hK _ ?_)); clear hK K))
  with_reducible refine wpL_nil (fun bF3 w3f mvF => ?_)
  have huF := mvF.below
  obtain ⟨fl3, fb3⟩ := (fd7.mv mvF).2 _ rfl
  clear mvF
  have s11 : w7.heap.size ≤ w3f.heap.size := by have := huF.size; (try simp at this); omega
  have s11H := Lib.hid s11
  have kw_11 : Below w.heap.size w w3f := bl_tr bk_ huF
  have kR3_11 : Below w2.heap.size w2 w3f := bl_tr bk_ huF
  have kc4_11 : Below w4.heap.size w4 w3f := bl_tr bk_ huF
  have kc5_11 : Below w5.heap.size w5 w3f := bl_tr bk_ huF
  have kr7_11 : Below w7.heap.size w7 w3f := bl_tr bk_ huF
  have lb0_11 : w.heap.size < w3f.heap.size := Nat.lt_of_lt_of_le (by go_simp) huF.size
  have yb0_0_11 : w3f.cell? ⟨w.heap.size, 0, none⟩ = some (.slice G n cg) := (huF.cell (p := ⟨w.heap.size, 0, none⟩) (by go_simp)).trans (by go_simp)
  have yb0_1_11 : w3f.cell? ⟨w.heap.size, 1, none⟩ = some (.slice T m ct) := (huF.cell (p := ⟨w.heap.size, 1, none⟩) (by go_simp)).trans (by go_simp)
  have yb0_2_11 : w3f.cell? ⟨w.heap.size, 2, none⟩ = some (.slice A q ca) := (huF.cell (p := ⟨w.heap.size, 2, none⟩) (by go_simp)).trans (by go_simp)
  have yb0_3_11 : w3f.cell? ⟨w.heap.size, 3, none⟩ = some (.int .i64 t) := (huF.cell (p := ⟨w.heap.size, 3, none⟩) (by go_simp)).trans (by go_simp)
  have lb1_11 : w.heap.size + 1 < w3f.heap.size := Nat.lt_of_lt_of_le (by go_simp) huF.size
  have yb1_0_11 : w3f.cell? ⟨w.heap.size + 1, 0, none⟩ = some (.slice C nb cb) := (huF.cell (p := ⟨w.heap.size + 1, 0, none⟩) (by go_simp)).trans (by go_simp)
  have lb2_11 : w.heap.size + 2 < w3f.heap.size := Nat.lt_of_lt_of_le (by go_simp) huF.size
  have yb2_0_11 : w3f.cell? ⟨w.heap.size + 2, 0, none⟩ = some (.int .i64 x) := (huF.cell (p := ⟨w.heap.size + 2, 0, none⟩) (by go_simp)).trans (by go_simp)
  have yb2_1_11 : w3f.cell? ⟨w.heap.size + 2, 1, none⟩ = some (.int .i64 y) := (huF.cell (p := ⟨w.heap.size + 2, 1, none⟩) (by go_simp)).trans (by go_simp)
  have yb2_2_11 : w3f.cell? ⟨w.heap.size + 2, 2, none⟩ = some (.int .i64 ti) := (huF.cell (p := ⟨w.heap.size + 2, 2, none⟩) (by go_simp)).trans (by go_simp)
  simp only [World.size_drew] at fl3
  have rF : w3f.rowIs bF3 40 1 (fun i => (#[.slice none 0 0] : Array Value).getD i undef) := ⟨_, fb3, rfl, fun i hi => by simp [hi]⟩
  have yF0 := rF.cell (i := 0) (by decide)
  have kF0 := rF.frozen 0
  have rFH := Lib.hid rF
  clear rF
  have vF7_0 := ownsRow_below v7H.out kr7_11
  have vF7_0H := Lib.hid vF7_0
  clear vF7_0
  simp only [flPtr]
  with_reducible refine wpD_b (fun K hK => ?_)
  go_simp
  refine hK _ _ ?_
  clear hK K
  repeat (first | ((with_reducible refine wpD_p (fun K hK => ?_)); go_simp; refine hK _ ?_; clear hK K) | ((with_reducible refine wpD_q (fun K hK => ?_)); go_simp; (first | refine hK _ ?_ | (go_bits; refine hK _ ?_) | (go_bits; go_simp; refine hK _ ?_)); clear hK K))
  with_reducible refine wpD_nil ?_
  obtain ⟨w8, hV⟩ : ∃ V, V = (w3f.setCell ⟨bF3, 0, none⟩ (.slice V7 (attR gs ts xs t ys x y ti).1.length c7)) := ⟨_, rfl⟩
  rw [← hV]
  have rV := (rFH.out.set 0 (.slice V7 (attR gs ts xs t ys x y ti).1.length c7))
  have hb8 := (kR3_11.setCell (p := ⟨bF3, 0, none⟩) fl3 (.slice V7 (attR gs ts xs t ys x y ti).1.length c7))
  rw [← hV] at rV hb8
  have yg3_0 : w8.cell? ⟨bF3, 0, none⟩ = some (.slice V7 (attR gs ts xs t ys x y ti).1.length c7) := by rw [rV.cell (i := 0) (by decide)]; simp
  have lg3 := rV.lt
  have sF3H := Lib.hid lg3
  have vV7_0 := (ownsRow_setCell_other (a := ⟨bF3, 0, none⟩) vF7_0H.out (own_ne_row vF7_0H.out rFH.out (by decide)) (.slice V7 (attR gs ts xs t ys x y ti).1.length c7))
  rw [← hV] at vV7_0
  have vV7_0H := Lib.hid vV7_0
  clear vV7_0
  clear yF0 kF0 rV
  have s12 : w2.heap.size ≤ w8.heap.size := by have := hb8.size; (try simp at this); omega
  have s12H := Lib.hid s12
  have kw_12 : Below w.heap.size w w8 := bl_tr bk_ hb8
  have lb0_12 : w.heap.size < w8.heap.size := Nat.lt_of_lt_of_le (by go_simp) hb8.size
  have yb0_0_12 : w8.cell? ⟨w.heap.size, 0, none⟩ = some (.slice G n cg) := (hb8.cell (p := ⟨w.heap.size, 0, none⟩) (by go_simp)).trans (by go_simp)
  have yb0_1_12 : w8.cell? ⟨w.heap.size, 1, none⟩ = some (.slice T m ct) := (hb8.cell (p := ⟨w.heap.size, 1, none⟩) (by go_simp)).trans (by go_simp)
  have yb0_2_12 : w8.cell? ⟨w.heap.size, 2, none⟩ = some (.slice A q ca) := (hb8.cell (p := ⟨w.heap.size, 2, none⟩) (by go_simp)).trans (by go_simp)
  have yb0_3_12 : w8.cell? ⟨w.heap.size, 3, none⟩ = some (.int .i64 t) := (hb8.cell (p := ⟨w.heap.size, 3, none⟩) (by go_simp)).trans (by go_simp)
  have lb1_12 : w.heap.size + 1 < w8.heap.size := Nat.lt_of_lt_of_le (by go_simp) hb8.size
  have yb1_0_12 : w8.cell? ⟨w.heap.size + 1, 0, none⟩ = some (.slice C nb cb) := (hb8.cell (p := ⟨w.heap.size + 1, 0, none⟩) (by go_simp)).trans (by go_simp)
  have lb2_12 : w.heap.size + 2 < w8.heap.size := Nat.lt_of_lt_of_le (by go_simp) hb8.size
  have yb2_0_12 : w8.cell? ⟨w.heap.size + 2, 0, none⟩ = some (.int .i64 x) := (hb8.cell (p := ⟨w.heap.size + 2, 0, none⟩) (by go_simp)).trans (by go_simp)
  have yb2_1_12 : w8.cell? ⟨w.heap.size + 2, 1, none⟩ = some (.int .i64 y) := (hb8.cell (p := ⟨w.heap.size + 2, 1, none⟩) (by go_simp)).trans (by go_simp)
  have yb2_2_12 : w8.cell? ⟨w.heap.size + 2, 2, none⟩ = some (.int .i64 ti) := (hb8.cell (p := ⟨w.heap.size + 2, 2, none⟩) (by go_simp)).trans (by go_simp)
  clear yb2_2_2 yb2_1_2 yb2_0_2 lb2_2 yb1_0_2 lb1_2 yb0_3_2 yb0_2_2 yb0_1_2 yb0_0_2 lb0_2 kw_2 s12
  clear hV hb8
  have krV3 : Below w8.heap.size w8 w8 := bl_refl _
  go_wp2_with fail
  refine (toSystemM_any _ _ _ _ _ _ _ _ _ gs ts xs _ _ (hG.below RGl.stable bk_) (hT.below RTi.stable bk_) (hA.below RPl.stable bk_) (by omega) (by omega) htsH.out (by omega)).mono ?_
  rintro e w9 ⟨G9, T9, A9, md9, rfl, o9, p9, z9, ms9, hb9⟩
  have s13 : w8.heap.size ≤ w9.heap.size := by have := hb9.size; (try simp at this); omega
  have s13H := Lib.hid s13
  have kw_13 : Below w.heap.size w w9 := bl_tr bk_ hb9
  have krV3_13 : Below w8.heap.size w8 w9 := bl_tr bk_ hb9
  have lb0_13 : w.heap.size < w9.heap.size := Nat.lt_of_lt_of_le (by go_simp) hb9.size
  have yb0_0_13 : w9.cell? ⟨w.heap.size, 0, none⟩ = some (.slice G n cg) := (hb9.cell (p := ⟨w.heap.size, 0, none⟩) (by go_simp)).trans (by go_simp)
  have yb0_1_13 : w9.cell? ⟨w.heap.size, 1, none⟩ = some (.slice T m ct) := (hb9.cell (p := ⟨w.heap.size, 1, none⟩) (by go_simp)).trans (by go_simp)
  have yb0_2_13 : w9.cell? ⟨w.heap.size, 2, none⟩ = some (.slice A q ca) := (hb9.cell (p := ⟨w.heap.size, 2, none⟩) (by go_simp)).trans (by go_simp)
  have yb0_3_13 : w9.cell? ⟨w.heap.size, 3, none⟩ = some (.int .i64 t) := (hb9.cell (p := ⟨w.heap.size, 3, none⟩) (by go_simp)).trans (by go_simp)
  have lb1_13 : w.heap.size + 1 < w9.heap.size := Nat.lt_of_lt_of_le (by go_simp) hb9.size
  have yb1_0_13 : w9.cell? ⟨w.heap.size + 1, 0, none⟩ = some (.slice C nb cb) := (hb9.cell (p := ⟨w.heap.size + 1, 0, none⟩) (by go_simp)).trans (by go_simp)
  have lb2_13 : w.heap.size + 2 < w9.heap.size := Nat.lt_of_lt_of_le (by go_simp) hb9.size
  have yb2_0_13 : w9.cell? ⟨w.heap.size + 2, 0, none⟩ = some (.int .i64 x) := (hb9.cell (p := ⟨w.heap.size + 2, 0, none⟩) (by go_simp)).trans (by go_simp)
  have yb2_1_13 : w9.cell? ⟨w.heap.size + 2, 1, none⟩ = some (.int .i64 y) := (hb9.cell (p := ⟨w.heap.size + 2, 1, none⟩) (by go_simp)).trans (by go_simp)
  have yb2_2_13 : w9.cell? ⟨w.heap.size + 2, 2, none⟩ = some (.int .i64 ti) := (hb9.cell (p := ⟨w.heap.size + 2, 2, none⟩) (by go_simp)).trans (by go_simp)
  have lb3_13 : bF3 < w9.heap.size := Nat.lt_of_lt_of_le (by go_simp) hb9.size
  have yb3_0_13 : w9.cell? ⟨bF3, 0, none⟩ = some (.slice V7 (attR gs ts xs t ys x y ti).1.length c7) := (hb9.cell (p := ⟨bF3, 0, none⟩) (by go_simp)).trans (by go_simp)
  clear yg3_0 lg3 yb2_2_12 yb2_1_12 yb2_0_12 lb2_12 yb1_0_12 lb1_12 yb0_3_12 yb0_2_12 yb0_1_12 yb0_0_12 lb0_12 krV3 kw_12 s13
  clear hb9
  have kc9 : Below w9.heap.size w9 w9 := bl_refl _
  have o9H := Lib.hid o9
  clear o9
  have p9H := Lib.hid p9
  clear p9
  have z9H := Lib.hid z9
  clear z9
  have ms9H := Lib.hid ms9
  clear ms9
  go_wp2_with fail
  refine (toAssembly_any _ _ _ ys _ (hC.below RPl.stable bk_) (by omega)).mono ?_
  rintro e w10 ⟨A10, rfl, o10, hb10⟩
  have s14 : w9.heap.size + 1 ≤ w10.heap.size := by have := hb10.size; (try simp at this); omega
  have s14H := Lib.hid s14
  have kw_14 : Below w.heap.size w w10 := bl_tr bk_ hb10
  have krV3_14 : Below w8.heap.size w8 w10 := bl_tr bk_ hb10
  have kc9_14 : Below w9.heap.size w9 w10 := bl_tr bk_ hb10
  have lb0_14 : w.heap.size < w10.heap.size := Nat.lt_of_lt_of_le (by go_simp) hb10.size
  have yb0_0_14 : w10.cell? ⟨w.heap.size, 0, none⟩ = some (.slice G n cg) := (hb10.cell (p := ⟨w.heap.size, 0, none⟩) (by go_simp)).trans (by go_simp)
  have yb0_1_14 : w10.cell? ⟨w.heap.size, 1, none⟩ = some (.slice T m ct) := (hb10.cell (p := ⟨w.heap.size, 1, none⟩) (by go_simp)).trans (by go_simp)
  have yb0_2_14 : w10.cell? ⟨w.heap.size, 2, none⟩ = some (.slice A q ca) := (hb10.cell (p := ⟨w.heap.size, 2, none⟩) (by go_simp)).trans (by go_simp)
  have yb0_3_14 : w10.cell? ⟨w.heap.size, 3, none⟩ = some (.int .i64 t) := (hb10.cell (p := ⟨w.heap.size, 3, none⟩) (by go_simp)).trans (by go_simp)
  have lb1_14 : w.heap.size + 1 < w10.heap.size := Nat.lt_of_lt_of_le (by go_simp) hb10.size
  have yb1_0_14 : w10.cell? ⟨w.heap.size + 1, 0, none⟩ = some (.slice C nb cb) := (hb10.cell (p := ⟨w.heap.size + 1, 0, none⟩) (by go_simp)).trans (by go_simp)
  have lb2_14 : w.heap.size + 2 < w10.heap.size := Nat.lt_of_lt_of_le (by go_simp) hb10.size
  have yb2_0_14 : w10.cell? ⟨w.heap.size + 2, 0, none⟩ = some (.int .i64 x) := (hb10.cell (p := ⟨w.heap.size + 2, 0, none⟩) (by go_simp)).trans (by go_simp)
  have yb2_1_14 : w10.cell? ⟨w.heap.size + 2, 1, none⟩ = some (.int .i64 y) := (hb10.cell (p := ⟨w.heap.size + 2, 1, none⟩) (by go_simp)).trans (by go_simp)
  have yb2_2_14 : w10.cell? ⟨w.heap.size + 2, 2, none⟩ = some (.int .i64 ti) := (hb10.cell (p := ⟨w.heap.size + 2, 2, none⟩) (by go_simp)).trans (by go_simp)
  have lb3_14 : bF3 < w10.heap.size := Nat.lt_of_lt_of_le (by go_simp) hb10.size
  have yb3_0_14 : w10.cell? ⟨bF3, 0, none⟩ = some (.slice V7 (attR gs ts xs t ys x y ti).1.length c7) := (hb10.cell (p := ⟨bF3, 0, none⟩) (by go_simp)).trans (by go_simp)
  have lb4_14 : w9.heap.size < w10.heap.size := Nat.lt_of_lt_of_le (by go_simp) hb10.size
  have yb4_0_14 : w10.cell? ⟨w9.heap.size, 0, none⟩ = some (.slice G9 n n) := (hb10.cell (p := ⟨w9.heap.size, 0, none⟩) (by go_simp)).trans (by go_simp)
  have yb4_1_14 : w10.cell? ⟨w9.heap.size, 1, none⟩ = some (.slice T9 m m) := (hb10.cell (p := ⟨w9.heap.size, 1, none⟩) (by go_simp)).trans (by go_simp)
  have yb4_2_14 : w10.cell? ⟨w9.heap.size, 2, none⟩ = some (.slice A9 q q) := (hb10.cell (p := ⟨w9.heap.size, 2, none⟩) (by go_simp)).trans (by go_simp)
  have yb4_3_14 : w10.cell? ⟨w9.heap.size, 3, none⟩ = some (.int .i64 t) := (hb10.cell (p := ⟨w9.heap.size, 3, none⟩) (by go_simp)).trans (by go_simp)
  clear yb3_0_13 lb3_13 yb2_2_13 yb2_1_13 yb2_0_13 lb2_13 yb1_0_13 lb1_13 yb0_3_13 yb0_2_13 yb0_1_13 yb0_0_13 lb0_13 kc9 krV3_13 kw_13 s14
  clear hb10
  have kc10 : Below w10.heap.size w10 w10 := bl_refl _
  have o10H := Lib.hid o10
  clear o10
  go_wp2_with fail
  obtain ⟨w11, hV⟩ : ∃ V, V = (w10.alloc (Obj.cells #[.slice A10 nb nb] 40)) := ⟨_, rfl⟩
  rw [← hV]
  have hb11 : Below (w10.alloc (Obj.cells #[.slice A10 nb nb] 40)).heap.size (w10.alloc (Obj.cells #[.slice A10 nb nb] 40)) w11 := by rw [hV]; exact bl_refl _
  have s15 : w10.heap.size + 1 ≤ w11.heap.size := by have := hb11.size; (try simp at this); omega
  have s15H := Lib.hid s15
  have kw_15 : Below w.heap.size w w11 := bl_tr bk_ hb11
  have krV3_15 : Below w8.heap.size w8 w11 := bl_tr bk_ hb11
  have kc9_15 : Below w9.heap.size w9 w11 := bl_tr bk_ hb11
  have kc10_15 : Below w10.heap.size w10 w11 := bl_tr bk_ hb11
  have lb0_15 : w.heap.size < w11.heap.size := Nat.lt_of_lt_of_le (by go_simp) hb11.size
  have yb0_0_15 : w11.cell? ⟨w.heap.size, 0, none⟩ = some (.slice G n cg) := (hb11.cell (p := ⟨w.heap.size, 0, none⟩) (by go_simp)).trans (by go_simp)
  have yb0_1_15 : w11.cell? ⟨w.heap.size, 1, none⟩ = some (.slice T m ct) := (hb11.cell (p := ⟨w.heap.size, 1, none⟩) (by go_simp)).trans (by go_simp)
  have yb0_2_15 : w11.cell? ⟨w.heap.size, 2, none⟩ = some (.slice A q ca) := (hb11.cell (p := ⟨w.heap.size, 2, none⟩) (by go_simp)).trans (by go_simp)
  have yb0_3_15 : w11.cell? ⟨w.heap.size, 3, none⟩ = some (.int .i64 t) := (hb11.cell (p := ⟨w.heap.size, 3, none⟩) (by go_simp)).trans (by go_simp)
  have lb1_15 : w.heap.size + 1 < w11.heap.size := Nat.lt_of_lt_of_le (by go_simp) hb11.size
  have yb1_0_15 : w11.cell? ⟨w.heap.size + 1, 0, none⟩ = some (.slice C nb cb) := (hb11.cell (p := ⟨w.heap.size + 1, 0, none⟩) (by go_simp)).trans (by go_simp)
  have lb2_15 : w.heap.size + 2 < w11.heap.size := Nat.lt_of_lt_of_le (by go_simp) hb11.size
  have yb2_0_15 : w11.cell? ⟨w.heap.size + 2, 0, none⟩ = some (.int .i64 x) := (hb11.cell (p := ⟨w.heap.size + 2, 0, none⟩) (by go_simp)).trans (by go_simp)
  have yb2_1_15 : w11.cell? ⟨w.heap.size + 2, 1, none⟩ = some (.int .i64 y) := (hb11.cell (p := ⟨w.heap.size + 2, 1, none⟩) (by go_simp)).trans (by go_simp)
  have yb2_2_15 : w11.cell? ⟨w.heap.size + 2, 2, none⟩ = some (.int .i64 ti) := (hb11.cell (p := ⟨w.heap.size + 2, 2, none⟩) (by go_simp)).trans (by go_simp)
  have lb3_15 : bF3 < w11.heap.size := Nat.lt_of_lt_of_le (by go_simp) hb11.size
  have yb3_0_15 : w11.cell? ⟨bF3, 0, none⟩ = some (.slice V7 (attR gs ts xs t ys x y ti).1.length c7) := (hb11.cell (p := ⟨bF3, 0, none⟩) (by go_simp)).trans (by go_simp)
  have lb4_15 : w9.heap.size < w11.heap.size := Nat.lt_of_lt_of_le (by go_simp) hb11.size
  have yb4_0_15 : w11.cell? ⟨w9.heap.size, 0, none⟩ = some (.slice G9 n n) := (hb11.cell (p := ⟨w9.heap.size, 0, none⟩) (by go_simp)).trans (by go_simp)
  have yb4_1_15 : w11.cell? ⟨w9.heap.size, 1, none⟩ = some (.slice T9 m m) := (hb11.cell (p := ⟨w9.heap.size, 1, none⟩) (by go_simp)).trans (by go_simp)
  have yb4_2_15 : w11.cell? ⟨w9.heap.size, 2, none⟩ = some (.slice A9 q q) := (hb11.cell (p := ⟨w9.heap.size, 2, none⟩) (by go_simp)).trans (by go_simp)
  have yb4_3_15 : w11.cell? ⟨w9.heap.size, 3, none⟩ = some (.int .i64 t) := (hb11.cell (p := ⟨w9.heap.size, 3, none⟩) (by go_simp)).trans (by go_simp)
  have lb5_15 : w10.heap.size < w11.heap.size := Nat.lt_of_lt_of_le (by go_simp) hb11.size
  have yb5_0_15 : w11.cell? ⟨w10.heap.size, 0, none⟩ = some (.slice A10 nb nb) := (hb11.cell (p := ⟨w10.heap.size, 0, none⟩) (by go_simp)).trans (by go_simp)
  clear yb4_3_14 yb4_2_14 yb4_1_14 yb4_0_14 lb4_14 yb3_0_14 lb3_14 yb2_2_14 yb2_1_14 yb2_0_14 lb2_14 yb1_0_14 lb1_14 yb0_3_14 yb0_2_14 yb0_1_14 yb0_0_14 lb0_14 kc10 kc9_14 krV3_14 kw_14 s15
  clear hV hb11
  have kR12 : Below w11.heap.size w11 w11 := bl_refl _
  refine wp_region_fl 8 [(0, .q), (1, .q), (2, .q), (3, .g), (4, .g), (5, .q), (6, .q), (7, .p)] [(9, .b), (10, .q)] _ (Obj.cells #[.slice none 0 0] 40) (by kernel_rfl) (by kernel_rfl) (by kernel_rfl) (by kernel_rfl) rfl (fun a w => ⟨rfl, by unfold flPtr; go_simp⟩) ?_
  simp only [pick, List.filterMap_cons, List.filterMap_nil, List.getElem?_toArray, List.getElem?_cons_zero, List.getElem?_cons_succ, Option.map_some]
  repeat (first | ((with_reducible refine wpL_p (fun K hK => ?_)); go_simp; refine hK _ ?_; clear hK K) | ((with_reducible refine wpL_q (fun K hK => ?_)); go_simp; (first | refine hK _ ?_ | (go_bits; refine hK _ ?_) | (go_bits; go_simp; refine hK _ ?_)); clear hK K))
  with_reducible refine wpL_g rfl (fun K hK st13 w13u mv13 => ?_)
  have hu13 := mv13.below
  have fu13 := (FlAt.none (Obj.cells #[.slice none 0 0] 40) (World.drew _)).mv mv13
  have Hmv13 := Lib.hid mv13
  clear mv13
  have s16 : w11.heap.size ≤ w13u.heap.size := by have := hu13.size; (try simp at this); omega
  have s16H := Lib.hid s16
  have kw_16 : Below w.heap.size w w13u := bl_tr bk_ hu13
  have krV3_16 : Below w8.heap.size w8 w13u := bl_tr bk_ hu13
  have kc9_16 : Below w9.heap.size w9 w13u := bl_tr bk_ hu13
  have kc10_16 : Below w10.heap.size w10 w13u := bl_tr bk_ hu13
  have kR12_16 : Below w11.heap.size w11 w13u := bl_tr bk_ hu13
  have lb0_16 : w.heap.size < w13u.heap.size := Nat.lt_of_lt_of_le (by go_simp) hu13.size
  have yb0_0_16 : w13u.cell? ⟨w.heap.size, 0, none⟩ = some (.slice G n cg) := (hu13.cell (p := ⟨w.heap.size, 0, none⟩) (by go_simp)).trans (by go_simp)
  have yb0_1_16 : w13u.cell? ⟨w.heap.size, 1, none⟩ = some (.slice T m ct) := (hu13.cell (p := ⟨w.heap.size, 1, none⟩) (by go_simp)).trans (by go_simp)
  have yb0_2_16 : w13u.cell? ⟨w.heap.size, 2, none⟩ = some (.slice A q ca) := (hu13.cell (p := ⟨w.heap.size, 2, none⟩) (by go_simp)).trans (by go_simp)
  have yb0_3_16 : w13u.cell? ⟨w.heap.size, 3, none⟩ = some (.int .i64 t) := (hu13.cell (p := ⟨w.heap.size, 3, none⟩) (by go_simp)).trans (by go_simp)
  have lb1_16 : w.heap.size + 1 < w13u.heap.size := Nat.lt_of_lt_of_le (by go_simp) hu13.size
  have yb1_0_16 : w13u.cell? ⟨w.heap.size + 1, 0, none⟩ = some (.slice C nb cb) := (hu13.cell (p := ⟨w.heap.size + 1, 0, none⟩) (by go_simp)).trans (by go_simp)
  have lb2_16 : w.heap.size + 2 < w13u.heap.size := Nat.lt_of_lt_of_le (by go_simp) hu13.size
  have yb2_0_16 : w13u.cell? ⟨w.heap.size + 2, 0, none⟩ = some (.int .i64 x) := (hu13.cell (p := ⟨w.heap.size + 2, 0, none⟩) (by go_simp)).trans (by go_simp)
  have yb2_1_16 : w13u.cell? ⟨w.heap.size + 2, 1, none⟩ = some (.int .i64 y) := (hu13.cell (p := ⟨w.heap.size + 2, 1, none⟩) (by go_simp)).trans (by go_simp)
  have yb2_2_16 : w13u.cell? ⟨w.heap.size + 2, 2, none⟩ = some (.int .i64 ti) := (hu13.cell (p := ⟨w.heap.size + 2, 2, none⟩) (by go_simp)).trans (by go_simp)
  have lb3_16 : bF3 < w13u.heap.size := Nat.lt_of_lt_of_le (by go_simp) hu13.size
  have yb3_0_16 : w13u.cell? ⟨bF3, 0, none⟩ = some (.slice V7 (attR gs ts xs t ys x y ti).1.length c7) := (hu13.cell (p := ⟨bF3, 0, none⟩) (by go_simp)).trans (by go_simp)
  have lb4_16 : w9.heap.size < w13u.heap.size := Nat.lt_of_lt_of_le (by go_simp) hu13.size
  have yb4_0_16 : w13u.cell? ⟨w9.heap.size, 0, none⟩ = some (.slice G9 n n) := (hu13.cell (p := ⟨w9.heap.size, 0, none⟩) (by go_simp)).trans (by go_simp)
  have yb4_1_16 : w13u.cell? ⟨w9.heap.size, 1, none⟩ = some (.slice T9 m m) := (hu13.cell (p := ⟨w9.heap.size, 1, none⟩) (by go_simp)).trans (by go_simp)
  have yb4_2_16 : w13u.cell? ⟨w9.heap.size, 2, none⟩ = some (.slice A9 q q) := (hu13.cell (p := ⟨w9.heap.size, 2, none⟩) (by go_simp)).trans (by go_simp)
  have yb4_3_16 : w13u.cell? ⟨w9.heap.size, 3, none⟩ = some (.int .i64 t) := (hu13.cell (p := ⟨w9.heap.size, 3, none⟩) (by go_simp)).trans (by go_simp)
  have lb5_16 : w10.heap.size < w13u.heap.size := Nat.lt_of_lt_of_le (by go_simp) hu13.size
  have yb5_0_16 : w13u.cell? ⟨w10.heap.size, 0, none⟩ = some (.slice A10 nb nb) := (hu13.cell (p := ⟨w10.heap.size, 0, none⟩) (by go_simp)).trans (by go_simp)
  go_simp
  refine (toOption_any _ _ _ _).mono ?_
  rintro e w13 ⟨rfl, hb13⟩
  refine ⟨_, rfl, hb13, hK _ _ _ ?_⟩
  clear hK K
  have fd13 := fu13.below hb13
  have s17 : w13u.heap.size ≤ w13.heap.size := by have := hb13.size; (try simp at this); omega
  have s17H := Lib.hid s17
  have kw_17 : Below w.heap.size w w13 := bl_tr bk_ hb13
  have krV3_17 : Below w8.heap.size w8 w13 := bl_tr bk_ hb13
  have kc9_17 : Below w9.heap.size w9 w13 := bl_tr bk_ hb13
  have kc10_17 : Below w10.heap.size w10 w13 := bl_tr bk_ hb13
  have kR12_17 : Below w11.heap.size w11 w13 := bl_tr bk_ hb13
  have lb0_17 : w.heap.size < w13.heap.size := Nat.lt_of_lt_of_le (by go_simp) hb13.size
  have yb0_0_17 : w13.cell? ⟨w.heap.size, 0, none⟩ = some (.slice G n cg) := (hb13.cell (p := ⟨w.heap.size, 0, none⟩) (by go_simp)).trans (by go_simp)
  have yb0_1_17 : w13.cell? ⟨w.heap.size, 1, none⟩ = some (.slice T m ct) := (hb13.cell (p := ⟨w.heap.size, 1, none⟩) (by go_simp)).trans (by go_simp)
  have yb0_2_17 : w13.cell? ⟨w.heap.size, 2, none⟩ = some (.slice A q ca) := (hb13.cell (p := ⟨w.heap.size, 2, none⟩) (by go_simp)).trans (by go_simp)
  have yb0_3_17 : w13.cell? ⟨w.heap.size, 3, none⟩ = some (.int .i64 t) := (hb13.cell (p := ⟨w.heap.size, 3, none⟩) (by go_simp)).trans (by go_simp)
  have lb1_17 : w.heap.size + 1 < w13.heap.size := Nat.lt_of_lt_of_le (by go_simp) hb13.size
  have yb1_0_17 : w13.cell? ⟨w.heap.size + 1, 0, none⟩ = some (.slice C nb cb) := (hb13.cell (p := ⟨w.heap.size + 1, 0, none⟩) (by go_simp)).trans (by go_simp)
  have lb2_17 : w.heap.size + 2 < w13.heap.size := Nat.lt_of_lt_of_le (by go_simp) hb13.size
  have yb2_0_17 : w13.cell? ⟨w.heap.size + 2, 0, none⟩ = some (.int .i64 x) := (hb13.cell (p := ⟨w.heap.size + 2, 0, none⟩) (by go_simp)).trans (by go_simp)
  have yb2_1_17 : w13.cell? ⟨w.heap.size + 2, 1, none⟩ = some (.int .i64 y) := (hb13.cell (p := ⟨w.heap.size + 2, 1, none⟩) (by go_simp)).trans (by go_simp)
  have yb2_2_17 : w13.cell? ⟨w.heap.size + 2, 2, none⟩ = some (.int .i64 ti) := (hb13.cell (p := ⟨w.heap.size + 2, 2, none⟩) (by go_simp)).trans (by go_simp)
  have lb3_17 : bF3 < w13.heap.size := Nat.lt_of_lt_of_le (by go_simp) hb13.size
  have yb3_0_17 : w13.cell? ⟨bF3, 0, none⟩ = some (.slice V7 (attR gs ts xs t ys x y ti).1.length c7) := (hb13.cell (p := ⟨bF3, 0, none⟩) (by go_simp)).trans (by go_simp)
  have lb4_17 : w9.heap.size < w13.heap.size := Nat.lt_of_lt_of_le (by go_simp) hb13.size
  have yb4_0_17 : w13.cell? ⟨w9.heap.size, 0, none⟩ = some (.slice G9 n n) := (hb13.cell (p := ⟨w9.heap.size, 0, none⟩) (by go_simp)).trans (by go_simp)
  have yb4_1_17 : w13.cell? ⟨w9.heap.size, 1, none⟩ = some (.slice T9 m m) := (hb13.cell (p := ⟨w9.heap.size, 1, none⟩) (by go_simp)).trans (by go_simp)
  have yb4_2_17 : w13.cell? ⟨w9.heap.size, 2, none⟩ = some (.slice A9 q q) := (hb13.cell (p := ⟨w9.heap.size, 2, none⟩) (by go_simp)).trans (by go_simp)
  have yb4_3_17 : w13.cell? ⟨w9.heap.size, 3, none⟩ = some (.int .i64 t) := (hb13.cell (p := ⟨w9.heap.size, 3, none⟩) (by go_simp)).trans (by go_simp)
  have lb5_17 : w10.heap.size < w13.heap.size := Nat.lt_of_lt_of_le (by go_simp) hb13.size
  have yb5_0_17 : w13.cell? ⟨w10.heap.size, 0, none⟩ = some (.slice A10 nb nb) := (hb13.cell (p := ⟨w10.heap.size, 0, none⟩) (by go_simp)).trans (by go_simp)
  clear hb13
  with_reducible refine wpL_g rfl (fun K hK st14 w14u mv14 => ?_)
  have hu14 := mv14.below
  have fu14 := fd13.mv mv14
  have Hmv14 := Lib.hid mv14
  clear mv14
  have s18 : w13.heap.size ≤ w14u.heap.size := by have := hu14.size; (try simp at this); omega
  have s18H := Lib.hid s18
  have kw_18 : Below w.heap.size w w14u := bl_tr bk_ hu14
  have krV3_18 : Below w8.heap.size w8 w14u := bl_tr bk_ hu14
  have kc9_18 : Below w9.heap.size w9 w14u := bl_tr bk_ hu14
  have kc10_18 : Below w10.heap.size w10 w14u := bl_tr bk_ hu14
  have kR12_18 : Below w11.heap.size w11 w14u := bl_tr bk_ hu14
  have lb0_18 : w.heap.size < w14u.heap.size := Nat.lt_of_lt_of_le (by go_simp) hu14.size
  have yb0_0_18 : w14u.cell? ⟨w.heap.size, 0, none⟩ = some (.slice G n cg) := (hu14.cell (p := ⟨w.heap.size, 0, none⟩) (by go_simp)).trans (by go_simp)
  have yb0_1_18 : w14u.cell? ⟨w.heap.size, 1, none⟩ = some (.slice T m ct) := (hu14.cell (p := ⟨w.heap.size, 1, none⟩) (by go_simp)).trans (by go_simp)
  have yb0_2_18 : w14u.cell? ⟨w.heap.size, 2, none⟩ = some (.slice A q ca) := (hu14.cell (p := ⟨w.heap.size, 2, none⟩) (by go_simp)).trans (by go_simp)
  have yb0_3_18 : w14u.cell? ⟨w.heap.size, 3, none⟩ = some (.int .i64 t) := (hu14.cell (p := ⟨w.heap.size, 3, none⟩) (by go_simp)).trans (by go_simp)
  have lb1_18 : w.heap.size + 1 < w14u.heap.size := Nat.lt_of_lt_of_le (by go_simp) hu14.size
  have yb1_0_18 : w14u.cell? ⟨w.heap.size + 1, 0, none⟩ = some (.slice C nb cb) := (hu14.cell (p := ⟨w.heap.size + 1, 0, none⟩) (by go_simp)).trans (by go_simp)
  have lb2_18 : w.heap.size + 2 < w14u.heap.size := Nat.lt_of_lt_of_le (by go_simp) hu14.size
  have yb2_0_18 : w14u.cell? ⟨w.heap.size + 2, 0, none⟩ = some (.int .i64 x) := (hu14.cell (p := ⟨w.heap.size + 2, 0, none⟩) (by go_simp)).trans (by go_simp)
  have yb2_1_18 : w14u.cell? ⟨w.heap.size + 2, 1, none⟩ = some (.int .i64 y) := (hu14.cell (p := ⟨w.heap.size + 2, 1, none⟩) (by go_simp)).trans (by go_simp)
  have yb2_2_18 : w14u.cell? ⟨w.heap.size + 2, 2, none⟩ = some (.int .i64 ti) := (hu14.cell (p := ⟨w.heap.size + 2, 2, none⟩) (by go_simp)).trans (by go_simp)
  have lb3_18 : bF3 < w14u.heap.size := Nat.lt_of_lt_of_le (by go_simp) hu14.size
  have yb3_0_18 : w14u.cell? ⟨bF3, 0, none⟩ = some (.slice V7 (attR gs ts xs t ys x y ti).1.length c7) := (hu14.cell (p := ⟨bF3, 0, none⟩) (by go_simp)).trans (by go_simp)
  have lb4_18 : w9.heap.size < w14u.heap.size := Nat.lt_of_lt_of_le (by go_simp) hu14.size
  have yb4_0_18 : w14u.cell? ⟨w9.heap.size, 0, none⟩ = some (.slice G9 n n) := (hu14.cell (p := ⟨w9.heap.size, 0, none⟩) (by go_simp)).trans (by go_simp)
  have yb4_1_18 : w14u.cell? ⟨w9.heap.size, 1, none⟩ = some (.slice T9 m m) := (hu14.cell (p := ⟨w9.heap.size, 1, none⟩) (by go_simp)).trans (by go_simp)
  have yb4_2_18 : w14u.cell? ⟨w9.heap.size, 2, none⟩ = some (.slice A9 q q) := (hu14.cell (p := ⟨w9.heap.size, 2, none⟩) (by go_simp)).trans (by go_simp)
  have yb4_3_18 : w14u.cell? ⟨w9.heap.size, 3, none⟩ = some (.int .i64 t) := (hu14.cell (p := ⟨w9.heap.size, 3, none⟩) (by go_simp)).trans (by go_simp)
  have lb5_18 : w10.heap.size < w14u.heap.size := Nat.lt_of_lt_of_le (by go_simp) hu14.size
  have yb5_0_18 : w14u.cell? ⟨w10.heap.size, 0, none⟩ = some (.slice A10 nb nb) := (hu14.cell (p := ⟨w10.heap.size, 0, none⟩) (by go_simp)).trans (by go_simp)
  go_simp
  refine (Attach_any _ _ _ _ _ _ _ _ _ _ _ _ gs ts xs ys _ x y ti _ ⟨o9H.out.rd.below RGl.stable bk_, p9H.out.rdTi.below RTi.stable bk_, z9H.out.rd.below RPl.stable bk_, by omega, by omega, by omega, hgk.out, htk.out⟩ ⟨o9H.out.rd.below RGl.stable bk_, p9H.out.rdTi.below RTi.stable bk_, o10H.out.rd.below RPl.stable bk_, by omega, by omega, by omega, hgk.out, htk.out⟩).mono ?_
  rintro e w14 ⟨V14, c14, rfl, v14, hb14⟩
  refine ⟨_, rfl, hb14, hK _ _ _ ?_⟩
  clear hK K
  have fd14 := fu14.below hb14
  have s19 : w14u.heap.size ≤ w14.heap.size := by have := hb14.size; (try simp at this); omega
  have s19H := Lib.hid s19
  have kw_19 : Below w.heap.size w w14 := bl_tr bk_ hb14
  have krV3_19 : Below w8.heap.size w8 w14 := bl_tr bk_ hb14
  have kc9_19 : Below w9.heap.size w9 w14 := bl_tr bk_ hb14
  have kc10_19 : Below w10.heap.size w10 w14 := bl_tr bk_ hb14
  have kR12_19 : Below w11.heap.size w11 w14 := bl_tr bk_ hb14
  have lb0_19 : w.heap.size < w14.heap.size := Nat.lt_of_lt_of_le (by go_simp) hb14.size
  have yb0_0_19 : w14.cell? ⟨w.heap.size, 0, none⟩ = some (.slice G n cg) := (hb14.cell (p := ⟨w.heap.size, 0, none⟩) (by go_simp)).trans (by go_simp)
  have yb0_1_19 : w14.cell? ⟨w.heap.size, 1, none⟩ = some (.slice T m ct) := (hb14.cell (p := ⟨w.heap.size, 1, none⟩) (by go_simp)).trans (by go_simp)
  have yb0_2_19 : w14.cell? ⟨w.heap.size, 2, none⟩ = some (.slice A q ca) := (hb14.cell (p := ⟨w.heap.size, 2, none⟩) (by go_simp)).trans (by go_simp)
  have yb0_3_19 : w14.cell? ⟨w.heap.size, 3, none⟩ = some (.int .i64 t) := (hb14.cell (p := ⟨w.heap.size, 3, none⟩) (by go_simp)).trans (by go_simp)
  have lb1_19 : w.heap.size + 1 < w14.heap.size := Nat.lt_of_lt_of_le (by go_simp) hb14.size
  have yb1_0_19 : w14.cell? ⟨w.heap.size + 1, 0, none⟩ = some (.slice C nb cb) := (hb14.cell (p := ⟨w.heap.size + 1, 0, none⟩) (by go_simp)).trans (by go_simp)
  have lb2_19 : w.heap.size + 2 < w14.heap.size := Nat.lt_of_lt_of_le (by go_simp) hb14.size
  have yb2_0_19 : w14.cell? ⟨w.heap.size + 2, 0, none⟩ = some (.int .i64 x) := (hb14.cell (p := ⟨w.heap.size + 2, 0, none⟩) (by go_simp)).trans (by go_simp)
  have yb2_1_19 : w14.cell? ⟨w.heap.size + 2, 1, none⟩ = some (.int .i64 y) := (hb14.cell (p := ⟨w.heap.size + 2, 1, none⟩) (by go_simp)).trans (by go_simp)
  have yb2_2_19 : w14.cell? ⟨w.heap.size + 2, 2, none⟩ = some (.int .i64 ti) := (hb14.cell (p := ⟨w.heap.size + 2, 2, none⟩) (by go_simp)).trans (by go_simp)
  have lb3_19 : bF3 < w14.heap.size := Nat.lt_of_lt_of_le (by go_simp) hb14.size
  have yb3_0_19 : w14.cell? ⟨bF3, 0, none⟩ = some (.slice V7 (attR gs ts xs t ys x y ti).1.length c7) := (hb14.cell (p := ⟨bF3, 0, none⟩) (by go_simp)).trans (by go_simp)
  have lb4_19 : w9.heap.size < w14.heap.size := Nat.lt_of_lt_of_le (by go_simp) hb14.size
  have yb4_0_19 : w14.cell? ⟨w9.heap.size, 0, none⟩ = some (.slice G9 n n) := (hb14.cell (p := ⟨w9.heap.size, 0, none⟩) (by go_simp)).trans (by go_simp)
  have yb4_1_19 : w14.cell? ⟨w9.heap.size, 1, none⟩ = some (.slice T9 m m) := (hb14.cell (p := ⟨w9.heap.size, 1, none⟩) (by go_simp)).trans (by go_simp)
  have yb4_2_19 : w14.cell? ⟨w9.heap.size, 2, none⟩ = some (.slice A9 q q) := (hb14.cell (p := ⟨w9.heap.size, 2, none⟩) (by go_simp)).trans (by go_simp)
  have yb4_3_19 : w14.cell? ⟨w9.heap.size, 3, none⟩ = some (.int .i64 t) := (hb14.cell (p := ⟨w9.heap.size, 3, none⟩) (by go_simp)).trans (by go_simp)
  have lb5_19 : w10.heap.size < w14.heap.size := Nat.lt_of_lt_of_le (by go_simp) hb14.size
  have yb5_0_19 : w14.cell? ⟨w10.heap.size, 0, none⟩ = some (.slice A10 nb nb) := (hb14.cell (p := ⟨w10.heap.size, 0, none⟩) (by go_simp)).trans (by go_simp)
  clear hb14
  have kr14 : Below w14.heap.size w14 w14 := bl_refl _
  have hv14 : ∀ g, (.slice V14 (attR gs ts xs t ys x y ti).1.length c14 : Value).ownBlock = some g → g < w14.heap.size := fun g e => (v14.lt g e).2
  have hv14H := Lib.hid hv14
  clear hv14
  have v14H := Lib.hid v14
  clear v14
  repeat (first | ((with_reducible refine wpL_p (fun K hK => ?_)); go_simp; refine hK _ ?_; clear hK K) | ((with_reducible refine wpL_q (fun K hK => ?_)); go_simp; (first | refine hK _ ?_ | (go_bits; refine hK _ ?_) | (go_bits; go_simp; refine hK _ ?_)); clear hK K))
  with_reducible refine wpL_nil (fun bF12 w12f mvF => ?_)
  have huF := mvF.below
  obtain ⟨fl12, fb12⟩ := (fd14.mv mvF).2 _ rfl
  have fo12 := (FlOut.of fu14 w14.heap.size).mv mvF (Nat.le_refl _) _ rfl
  have fo12H := Lib.hid fo12
  clear fo12
  clear mvF
  have s20 : w14.heap.size ≤ w12f.heap.size := by have := huF.size; (try simp at this); omega
  have s20H := Lib.hid s20
  have kw_20 : Below w.heap.size w w12f := bl_tr bk_ huF
  have krV3_20 : Below w8.heap.size w8 w12f := bl_tr bk_ huF
  have kc9_20 : Below w9.heap.size w9 w12f := bl_tr bk_ huF
  have kc10_20 : Below w10.heap.size w10 w12f := bl_tr bk_ huF
  have kR12_20 : Below w11.heap.size w11 w12f := bl_tr bk_ huF
  have kr14_20 : Below w14.heap.size w14 w12f := bl_tr bk_ huF
  have lb0_20 : w.heap.size < w12f.heap.size := Nat.lt_of_lt_of_le (by go_simp) huF.size
  have yb0_0_20 : w12f.cell? ⟨w.heap.size, 0, none⟩ = some (.slice G n cg) := (huF.cell (p := ⟨w.heap.size, 0, none⟩) (by go_simp)).trans (by go_simp)
  have yb0_1_20 : w12f.cell? ⟨w.heap.size, 1, none⟩ = some (.slice T m ct) := (huF.cell (p := ⟨w.heap.size, 1, none⟩) (by go_simp)).trans (by go_simp)
  have yb0_2_20 : w12f.cell? ⟨w.heap.size, 2, none⟩ = some (.slice A q ca) := (huF.cell (p := ⟨w.heap.size, 2, none⟩) (by go_simp)).trans (by go_simp)
  have yb0_3_20 : w12f.cell? ⟨w.heap.size, 3, none⟩ = some (.int .i64 t) := (huF.cell (p := ⟨w.heap.size, 3, none⟩) (by go_simp)).trans (by go_simp)
  have lb1_20 : w.heap.size + 1 < w12f.heap.size := Nat.lt_of_lt_of_le (by go_simp) huF.size
  have yb1_0_20 : w12f.cell? ⟨w.heap.size + 1, 0, none⟩ = some (.slice C nb cb) := (huF.cell (p := ⟨w.heap.size + 1, 0, none⟩) (by go_simp)).trans (by go_simp)
  have lb2_20 : w.heap.size + 2 < w12f.heap.size := Nat.lt_of_lt_of_le (by go_simp) huF.size
  have yb2_0_20 : w12f.cell? ⟨w.heap.size + 2, 0, none⟩ = some (.int .i64 x) := (huF.cell (p := ⟨w.heap.size + 2, 0, none⟩) (by go_simp)).trans (by go_simp)
  have yb2_1_20 : w12f.cell? ⟨w.heap.size + 2, 1, none⟩ = some (.int .i64 y) := (huF.cell (p := ⟨w.heap.size + 2, 1, none⟩) (by go_simp)).trans (by go_simp)
  have yb2_2_20 : w12f.cell? ⟨w.heap.size + 2, 2, none⟩ = some (.int .i64 ti) := (huF.cell (p := ⟨w.heap.size + 2, 2, none⟩) (by go_simp)).trans (by go_simp)
  have lb3_20 : bF3 < w12f.heap.size := Nat.lt_of_lt_of_le (by go_simp) huF.size
  have yb3_0_20 : w12f.cell? ⟨bF3, 0, none⟩ = some (.slice V7 (attR gs ts xs t ys x y ti).1.length c7) := (huF.cell (p := ⟨bF3, 0, none⟩) (by go_simp)).trans (by go_simp)
  have lb4_20 : w9.heap.size < w12f.heap.size := Nat.lt_of_lt_of_le (by go_simp) huF.size
  have yb4_0_20 : w12f.cell? ⟨w9.heap.size, 0, none⟩ = some (.slice G9 n n) := (huF.cell (p := ⟨w9.heap.size, 0, none⟩) (by go_simp)).trans (by go_simp)
  have yb4_1_20 : w12f.cell? ⟨w9.heap.size, 1, none⟩ = some (.slice T9 m m) := (huF.cell (p := ⟨w9.heap.size, 1, none⟩) (by go_simp)).trans (by go_simp)
  have yb4_2_20 : w12f.cell? ⟨w9.heap.size, 2, none⟩ = some (.slice A9 q q) := (huF.cell (p := ⟨w9.heap.size, 2, none⟩) (by go_simp)).trans (by go_simp)
  have yb4_3_20 : w12f.cell? ⟨w9.heap.size, 3, none⟩ = some (.int .i64 t) := (huF.cell (p := ⟨w9.heap.size, 3, none⟩) (by go_simp)).trans (by go_simp)
  have lb5_20 : w10.heap.size < w12f.heap.size := Nat.lt_of_lt_of_le (by go_simp) huF.size
  have yb5_0_20 : w12f.cell? ⟨w10.heap.size, 0, none⟩ = some (.slice A10 nb nb) := (huF.cell (p := ⟨w10.heap.size, 0, none⟩) (by go_simp)).trans (by go_simp)
  simp only [World.size_drew] at fl12
  have rF : w12f.rowIs bF12 40 1 (fun i => (#[.slice none 0 0] : Array Value).getD i undef) := ⟨_, fb12, rfl, fun i hi => by simp [hi]⟩
  have yF0 := rF.cell (i := 0) (by decide)
  have kF0 := rF.frozen 0
  have rFH := Lib.hid rF
  clear rF
  have vF14_0 := ownsRow_below v14H.out kr14_20
  have vF14_0H := Lib.hid vF14_0
  clear vF14_0
  simp only [flPtr]
  with_reducible refine wpD_b (fun K hK => ?_)
  go_simp
  refine hK _ _ ?_
  clear hK K
  repeat (first | ((with_reducible refine wpD_p (fun K hK => ?_)); go_simp; refine hK _ ?_; clear hK K) | ((with_reducible refine wpD_q (fun K hK => ?_)); go_simp; (first | refine hK _ ?_ | (go_bits; refine hK _ ?_) | (go_bits; go_simp; refine hK _ ?_)); clear hK K))
  with_reducible refine wpD_nil ?_
  obtain ⟨w15, hV⟩ : ∃ V, V = (w12f.setCell ⟨bF12, 0, none⟩ (.slice V14 (attR gs ts xs t ys x y ti).1.length c14)) := ⟨_, rfl⟩
  rw [← hV]
  have rV := (rFH.out.set 0 (.slice V14 (attR gs ts xs t ys x y ti).1.length c14))
  have hb15 := (kR12_20.setCell (p := ⟨bF12, 0, none⟩) fl12 (.slice V14 (attR gs ts xs t ys x y ti).1.length c14))
  rw [← hV] at rV hb15
  have yg12_0 : w15.cell? ⟨bF12, 0, none⟩ = some (.slice V14 (attR gs ts xs t ys x y ti).1.length c14) := by rw [rV.cell (i := 0) (by decide)]; simp
  have lg12 := rV.lt
  have sF12H := Lib.hid lg12
  have sE12 : w12f.heap.size ≤ w15.heap.size := by rw [hV]; simp
  have sE12H := Lib.hid sE12
  clear sE12
  have vV14_0 := (ownsRow_setCell_other (a := ⟨bF12, 0, none⟩) vF14_0H.out (own_ne_row vF14_0H.out rFH.out (by decide)) (.slice V14 (attR gs ts xs t ys x y ti).1.length c14))
  rw [← hV] at vV14_0
  have vV14_0H := Lib.hid vV14_0
  clear vV14_0
  clear yF0 kF0 rV
  have s21 : w11.heap.size ≤ w15.heap.size := by have := hb15.size; (try simp at this); omega
  have s21H := Lib.hid s21
  have kw_21 : Below w.heap.size w w15 := bl_tr bk_ hb15
  have krV3_21 : Below w8.heap.size w8 w15 := bl_tr bk_ hb15
  have kc9_21 : Below w9.heap.size w9 w15 := bl_tr bk_ hb15
  have kc10_21 : Below w10.heap.size w10 w15 := bl_tr bk_ hb15
  have lb0_21 : w.heap.size < w15.heap.size := Nat.lt_of_lt_of_le (by go_simp) hb15.size
  have yb0_0_21 : w15.cell? ⟨w.heap.size, 0, none⟩ = some (.slice G n cg) := (hb15.cell (p := ⟨w.heap.size, 0, none⟩) (by go_simp)).trans (by go_simp)
  have yb0_1_21 : w15.cell? ⟨w.heap.size, 1, none⟩ = some (.slice T m ct) := (hb15.cell (p := ⟨w.heap.size, 1, none⟩) (by go_simp)).trans (by go_simp)
  have yb0_2_21 : w15.cell? ⟨w.heap.size, 2, none⟩ = some (.slice A q ca) := (hb15.cell (p := ⟨w.heap.size, 2, none⟩) (by go_simp)).trans (by go_simp)
  have yb0_3_21 : w15.cell? ⟨w.heap.size, 3, none⟩ = some (.int .i64 t) := (hb15.cell (p := ⟨w.heap.size, 3, none⟩) (by go_simp)).trans (by go_simp)
  have lb1_21 : w.heap.size + 1 < w15.heap.size := Nat.lt_of_lt_of_le (by go_simp) hb15.size
  have yb1_0_21 : w15.cell? ⟨w.heap.size + 1, 0, none⟩ = some (.slice C nb cb) := (hb15.cell (p := ⟨w.heap.size + 1, 0, none⟩) (by go_simp)).trans (by go_simp)
  have lb2_21 : w.heap.size + 2 < w15.heap.size := Nat.lt_of_lt_of_le (by go_simp) hb15.size
  have yb2_0_21 : w15.cell? ⟨w.heap.size + 2, 0, none⟩ = some (.int .i64 x) := (hb15.cell (p := ⟨w.heap.size + 2, 0, none⟩) (by go_simp)).trans (by go_simp)
  have yb2_1_21 : w15.cell? ⟨w.heap.size + 2, 1, none⟩ = some (.int .i64 y) := (hb15.cell (p := ⟨w.heap.size + 2, 1, none⟩) (by go_simp)).trans (by go_simp)
  have yb2_2_21 : w15.cell? ⟨w.heap.size + 2, 2, none⟩ = some (.int .i64 ti) := (hb15.cell (p := ⟨w.heap.size + 2, 2, none⟩) (by go_simp)).trans (by go_simp)
  have lb3_21 : bF3 < w15.heap.size := Nat.lt_of_lt_of_le (by go_simp) hb15.size
  have yb3_0_21 : w15.cell? ⟨bF3, 0, none⟩ = some (.slice V7 (attR gs ts xs t ys x y ti).1.length c7) := (hb15.cell (p := ⟨bF3, 0, none⟩) (by go_simp)).trans (by go_simp)
  have lb4_21 : w9.heap.size < w15.heap.size := Nat.lt_of_lt_of_le (by go_simp) hb15.size
  have yb4_0_21 : w15.cell? ⟨w9.heap.size, 0, none⟩ = some (.slice G9 n n) := (hb15.cell (p := ⟨w9.heap.size, 0, none⟩) (by go_simp)).trans (by go_simp)
  have yb4_1_21 : w15.cell? ⟨w9.heap.size, 1, none⟩ = some (.slice T9 m m) := (hb15.cell (p := ⟨w9.heap.size, 1, none⟩) (by go_simp)).trans (by go_simp)
  have yb4_2_21 : w15.cell? ⟨w9.heap.size, 2, none⟩ = some (.slice A9 q q) := (hb15.cell (p := ⟨w9.heap.size, 2, none⟩) (by go_simp)).trans (by go_simp)
  have yb4_3_21 : w15.cell? ⟨w9.heap.size, 3, none⟩ = some (.int .i64 t) := (hb15.cell (p := ⟨w9.heap.size, 3, none⟩) (by go_simp)).trans (by go_simp)
  have lb5_21 : w10.heap.size < w15.heap.size := Nat.lt_of_lt_of_le (by go_simp) hb15.size
  have yb5_0_21 : w15.cell? ⟨w10.heap.size, 0, none⟩ = some (.slice A10 nb nb) := (hb15.cell (p := ⟨w10.heap.size, 0, none⟩) (by go_simp)).trans (by go_simp)
  clear yb5_0_15 lb5_15 yb4_3_15 yb4_2_15 yb4_1_15 yb4_0_15 lb4_15 yb3_0_15 lb3_15 yb2_2_15 yb2_1_15 yb2_0_15 lb2_15 yb1_0_15 lb1_15 yb0_3_15 yb0_2_15 yb0_1_15 yb0_0_15 lb0_15 kc10_15 kc9_15 krV3_15 kw_15 s21
  clear hV hb15
  have krV12 : Below w15.heap.size w15 w15 := bl_refl _
  go_wp2_with fail
  refine (eqAssembly_same _ _ _ _ _ (attR gs ts xs t ys x y ti).1 _ ((rdPl vV14_0H.out).below RPl.stable bk_) ((rdPl vV7_0H.out).below RPl.stable bk_) hRl.out).mono ?_
  rintro e w16 ⟨rfl, hb16⟩
  have s22 : w15.heap.size ≤ w16.heap.size := by have := hb16.size; (try simp at this); omega
  have s22H := Lib.hid s22
  have kw_22 : Below w.heap.size w w16 := bl_tr bk_ hb16
  have krV3_22 : Below w8.heap.size w8 w16 := bl_tr bk_ hb16
  have kc9_22 : Below w9.heap.size w9 w16 := bl_tr bk_ hb16
  have kc10_22 : Below w10.heap.size w10 w16 := bl_tr bk_ hb16
  have krV12_22 : Below w15.heap.size w15 w16 := bl_tr bk_ hb16
  have lb0_22 : w.heap.size < w16.heap.size := Nat.lt_of_lt_of_le (by go_simp) hb16.size
  have yb0_0_22 : w16.cell? ⟨w.heap.size, 0, none⟩ = some (.slice G n cg) := (hb16.cell (p := ⟨w.heap.size, 0, none⟩) (by go_simp)).trans (by go_simp)
  have yb0_1_22 : w16.cell? ⟨w.heap.size, 1, none⟩ = some (.slice T m ct) := (hb16.cell (p := ⟨w.heap.size, 1, none⟩) (by go_simp)).trans (by go_simp)
  have yb0_2_22 : w16.cell? ⟨w.heap.size, 2, none⟩ = some (.slice A q ca) := (hb16.cell (p := ⟨w.heap.size, 2, none⟩) (by go_simp)).trans (by go_simp)
  have yb0_3_22 : w16.cell? ⟨w.heap.size, 3, none⟩ = some (.int .i64 t) := (hb16.cell (p := ⟨w.heap.size, 3, none⟩) (by go_simp)).trans (by go_simp)
  have lb1_22 : w.heap.size + 1 < w16.heap.size := Nat.lt_of_lt_of_le (by go_simp) hb16.size
  have yb1_0_22 : w16.cell? ⟨w.heap.size + 1, 0, none⟩ = some (.slice C nb cb) := (hb16.cell (p := ⟨w.heap.size + 1, 0, none⟩) (by go_simp)).trans (by go_simp)
  have lb2_22 : w.heap.size + 2 < w16.heap.size := Nat.lt_of_lt_of_le (by go_simp) hb16.size
  have yb2_0_22 : w16.cell? ⟨w.heap.size + 2, 0, none⟩ = some (.int .i64 x) := (hb16.cell (p := ⟨w.heap.size + 2, 0, none⟩) (by go_simp)).trans (by go_simp)
  have yb2_1_22 : w16.cell? ⟨w.heap.size + 2, 1, none⟩ = some (.int .i64 y) := (hb16.cell (p := ⟨w.heap.size + 2, 1, none⟩) (by go_simp)).trans (by go_simp)
  have yb2_2_22 : w16.cell? ⟨w.heap.size + 2, 2, none⟩ = some (.int .i64 ti) := (hb16.cell (p := ⟨w.heap.size + 2, 2, none⟩) (by go_simp)).trans (by go_simp)
  have lb3_22 : bF3 < w16.heap.size := Nat.lt_of_lt_of_le (by go_simp) hb16.size
  have yb3_0_22 : w16.cell? ⟨bF3, 0, none⟩ = some (.slice V7 (attR gs ts xs t ys x y ti).1.length c7) := (hb16.cell (p := ⟨bF3, 0, none⟩) (by go_simp)).trans (by go_simp)
  have lb4_22 : w9.heap.size < w16.heap.size := Nat.lt_of_lt_of_le (by go_simp) hb16.size
  have yb4_0_22 : w16.cell? ⟨w9.heap.size, 0, none⟩ = some (.slice G9 n n) := (hb16.cell (p := ⟨w9.heap.size, 0, none⟩) (by go_simp)).trans (by go_simp)
  have yb4_1_22 : w16.cell? ⟨w9.heap.size, 1, none⟩ = some (.slice T9 m m) := (hb16.cell (p := ⟨w9.heap.size, 1, none⟩) (by go_simp)).trans (by go_simp)
  have yb4_2_22 : w16.cell? ⟨w9.heap.size, 2, none⟩ = some (.slice A9 q q) := (hb16.cell (p := ⟨w9.heap.size, 2, none⟩) (by go_simp)).trans (by go_simp)
  have yb4_3_22 : w16.cell? ⟨w9.heap.size, 3, none⟩ = some (.int .i64 t) := (hb16.cell (p := ⟨w9.heap.size, 3, none⟩) (by go_simp)).trans (by go_simp)
  have lb5_22 : w10.heap.size < w16.heap.size := Nat.lt_of_lt_of_le (by go_simp) hb16.size
  have yb5_0_22 : w16.cell? ⟨w10.heap.size, 0, none⟩ = some (.slice A10 nb nb) := (hb16.cell (p := ⟨w10.heap.size, 0, none⟩) (by go_simp)).trans (by go_simp)
  have lb6_22 : bF12 < w16.heap.size := Nat.lt_of_lt_of_le (by go_simp) hb16.size
  have yb6_0_22 : w16.cell? ⟨bF12, 0, none⟩ = some (.slice V14 (attR gs ts xs t ys x y ti).1.length c14) := (hb16.cell (p := ⟨bF12, 0, none⟩) (by go_simp)).trans (by go_simp)
  clear yg12_0 lg12 yb5_0_21 lb5_21 yb4_3_21 yb4_2_21 yb4_1_21 yb4_0_21 lb4_21 yb3_0_21 lb3_21 yb2_2_21 yb2_1_21 yb2_0_21 lb2_21 yb1_0_21 lb1_21 yb0_3_21 yb0_2_21 yb0_1_21 yb0_0_21 lb0_21 krV12 kc10_21 kc9_21 krV3_21 kw_21 s22
  clear hb16
  go_wp2_with fail
  refine wp_region_ord [(0, .q), (1, .q), (2, .g), (3, .g), (4, .q)] (by kernel_rfl) (by kernel_rfl) ?_
  simp only [pick, List.filterMap_cons, List.filterMap_nil, List.getElem?_toArray, List.getElem?_cons_zero, List.getElem?_cons_succ, Option.map_some]
  repeat (first | ((with_reducible refine wpD_p (fun K hK => ?_)); go_simp; refine hK _ ?_; clear hK K) | ((with_reducible refine wpD_q (fun K hK => ?_)); go_simp; (first | refine hK _ ?_ | (go_bits; refine hK _ ?_) | (go_bits; go_simp; refine hK _ ?_)); clear hK K))
  with_reducible refine wpD_g (fun K hK => ?_)
  go_simp
  refine (toSystemM_any _ _ _ _ _ _ _ _ _ gs ts xs _ _ (hG.below RGl.stable bk_) (hT.below RTi.stable bk_) (hA.below RPl.stable bk_) (by omega) (by omega) htsH.out (by omega)).mono ?_
  rintro e w17 ⟨G17, T17, A17, md17, rfl, o17, p17, z17, ms17, hb17⟩
  refine ⟨_, rfl, hb17, hK _ _ ?_⟩
  clear hK K
  have s23 : w16.heap.size ≤ w17.heap.size := by have := hb17.size; (try simp at this); omega
  have s23H := Lib.hid s23
  have kw_23 : Below w.heap.size w w17 := bl_tr bk_ hb17
  have krV3_23 : Below w8.heap.size w8 w17 := bl_tr bk_ hb17
  have kc9_23 : Below w9.heap.size w9 w17 := bl_tr bk_ hb17
  have kc10_23 : Below w10.heap.size w10 w17 := bl_tr bk_ hb17
  have krV12_23 : Below w15.heap.size w15 w17 := bl_tr bk_ hb17
  have lb0_23 : w.heap.size < w17.heap.size := Nat.lt_of_lt_of_le (by go_simp) hb17.size
  have yb0_0_23 : w17.cell? ⟨w.heap.size, 0, none⟩ = some (.slice G n cg) := (hb17.cell (p := ⟨w.heap.size, 0, none⟩) (by go_simp)).trans (by go_simp)
  have yb0_1_23 : w17.cell? ⟨w.heap.size, 1, none⟩ = some (.slice T m ct) := (hb17.cell (p := ⟨w.heap.size, 1, none⟩) (by go_simp)).trans (by go_simp)
  have yb0_2_23 : w17.cell? ⟨w.heap.size, 2, none⟩ = some (.slice A q ca) := (hb17.cell (p := ⟨w.heap.size, 2, none⟩) (by go_simp)).trans (by go_simp)
  have yb0_3_23 : w17.cell? ⟨w.heap.size, 3, none⟩ = some (.int .i64 t) := (hb17.cell (p := ⟨w.heap.size, 3, none⟩) (by go_simp)).trans (by go_simp)
  have lb1_23 : w.heap.size + 1 < w17.heap.size := Nat.lt_of_lt_of_le (by go_simp) hb17.size
  have yb1_0_23 : w17.cell? ⟨w.heap.size + 1, 0, none⟩ = some (.slice C nb cb) := (hb17.cell (p := ⟨w.heap.size + 1, 0, none⟩) (by go_simp)).trans (by go_simp)
  have lb2_23 : w.heap.size + 2 < w17.heap.size := Nat.lt_of_lt_of_le (by go_simp) hb17.size
  have yb2_0_23 : w17.cell? ⟨w.heap.size + 2, 0, none⟩ = some (.int .i64 x) := (hb17.cell (p := ⟨w.heap.size + 2, 0, none⟩) (by go_simp)).trans (by go_simp)
  have yb2_1_23 : w17.cell? ⟨w.heap.size + 2, 1, none⟩ = some (.int .i64 y) := (hb17.cell (p := ⟨w.heap.size + 2, 1, none⟩) (by go_simp)).trans (by go_simp)
  have yb2_2_23 : w17.cell? ⟨w.heap.size + 2, 2, none⟩ = some (.int .i64 ti) := (hb17.cell (p := ⟨w.heap.size + 2, 2, none⟩) (by go_simp)).trans (by go_simp)
  have lb3_23 : bF3 < w17.heap.size := Nat.lt_of_lt_of_le (by go_simp) hb17.size
  have yb3_0_23 : w17.cell? ⟨bF3, 0, none⟩ = some (.slice V7 (attR gs ts xs t ys x y ti).1.length c7) := (hb17.cell (p := ⟨bF3, 0, none⟩) (by go_simp)).trans (by go_simp)
  have lb4_23 : w9.heap.size < w17.heap.size := Nat.lt_of_lt_of_le (by go_simp) hb17.size
  have yb4_0_23 : w17.cell? ⟨w9.heap.size, 0, none⟩ = some (.slice G9 n n) := (hb17.cell (p := ⟨w9.heap.size, 0, none⟩) (by go_simp)).trans (by go_simp)
  have yb4_1_23 : w17.cell? ⟨w9.heap.size, 1, none⟩ = some (.slice T9 m m) := (hb17.cell (p := ⟨w9.heap.size, 1, none⟩) (by go_simp)).trans (by go_simp)
  have yb4_2_23 : w17.cell? ⟨w9.heap.size, 2, none⟩ = some (.slice A9 q q) := (hb17.cell (p := ⟨w9.heap.size, 2, none⟩) (by go_simp)).trans (by go_simp)
  have yb4_3_23 : w17.cell? ⟨w9.heap.size, 3, none⟩ = some (.int .i64 t) := (hb17.cell (p := ⟨w9.heap.size, 3, none⟩) (by go_simp)).trans (by go_simp)
  have lb5_23 : w10.heap.size < w17.heap.size := Nat.lt_of_lt_of_le (by go_simp) hb17.size
  have yb5_0_23 : w17.cell? ⟨w10.heap.size, 0, none⟩ = some (.slice A10 nb nb) := (hb17.cell (p := ⟨w10.heap.size, 0, none⟩) (by go_simp)).trans (by go_simp)
  have lb6_23 : bF12 < w17.heap.size := Nat.lt_of_lt_of_le (by go_simp) hb17.size
  have yb6_0_23 : w17.cell? ⟨bF12, 0, none⟩ = some (.slice V14 (attR gs ts xs t ys x y ti).1.length c14) := (hb17.cell (p := ⟨bF12, 0, none⟩) (by go_simp)).trans (by go_simp)
  clear yb6_0_22 lb6_22 yb5_0_22 lb5_22 yb4_3_22 yb4_2_22 yb4_1_22 yb4_0_22 lb4_22 yb3_0_22 lb3_22 yb2_2_22 yb2_1_22 yb2_0_22 lb2_22 yb1_0_22 lb1_22 yb0_3_22 yb0_2_22 yb0_1_22 yb0_0_22 lb0_22 krV12_22 kc10_22 kc9_22 krV3_22 kw_22 s23
  clear hb17
  have kc17 : Below w17.heap.size w17 w17 := bl_refl _
  have o17H := Lib.hid o17
  clear o17
  have p17H := Lib.hid p17
  clear p17
  have z17H := Lib.hid z17
  clear z17
  have ms17H := Lib.hid ms17
  clear ms17
  with_reducible refine wpD_g (fun K hK => ?_)
  go_simp
  refine (eqSystem_same _ _ _ _ _ _ _ _ _ _ _ _ _ _ _ gs ts xs _ _ (o9H.out.rd.below RGl.stable bk_) (o17H.out.rd.below RGl.stable bk_) (p9H.out.rdTi.below RTi.stable bk_) (p17H.out.rdTi.below RTi.stable bk_) (z9H.out.rd.below RPl.stable bk_) (z17H.out.rd.below RPl.stable bk_) (by omega) (by omega) htsH.out (by omega)).mono ?_
  rintro e w18 ⟨rfl, hb18⟩
  refine ⟨_, rfl, hb18, hK _ _ ?_⟩
  clear hK K
  have s24 : w17.heap.size ≤ w18.heap.size := by have := hb18.size; (try simp at this); omega
  have s24H := Lib.hid s24
  have kw_24 : Below w.heap.size w w18 := bl_tr bk_ hb18
  have krV3_24 : Below w8.heap.size w8 w18 := bl_tr bk_ hb18
  have kc9_24 : Below w9.heap.size w9 w18 := bl_tr bk_ hb18
  have kc10_24 : Below w10.heap.size w10 w18 := bl_tr bk_ hb18
  have krV12_24 : Below w15.heap.size w15 w18 := bl_tr bk_ hb18
  have kc17_24 : Below w17.heap.size w17 w18 := bl_tr bk_ hb18
  have lb0_24 : w.heap.size < w18.heap.size := Nat.lt_of_lt_of_le (by go_simp) hb18.size
  have yb0_0_24 : w18.cell? ⟨w.heap.size, 0, none⟩ = some (.slice G n cg) := (hb18.cell (p := ⟨w.heap.size, 0, none⟩) (by go_simp)).trans (by go_simp)
  have yb0_1_24 : w18.cell? ⟨w.heap.size, 1, none⟩ = some (.slice T m ct) := (hb18.cell (p := ⟨w.heap.size, 1, none⟩) (by go_simp)).trans (by go_simp)
  have yb0_2_24 : w18.cell? ⟨w.heap.size, 2, none⟩ = some (.slice A q ca) := (hb18.cell (p := ⟨w.heap.size, 2, none⟩) (by go_simp)).trans (by go_simp)
  have yb0_3_24 : w18.cell? ⟨w.heap.size, 3, none⟩ = some (.int .i64 t) := (hb18.cell (p := ⟨w.heap.size, 3, none⟩) (by go_simp)).trans (by go_simp)
  have lb1_24 : w.heap.size + 1 < w18.heap.size := Nat.lt_of_lt_of_le (by go_simp) hb18.size
  have yb1_0_24 : w18.cell? ⟨w.heap.size + 1, 0, none⟩ = some (.slice C nb cb) := (hb18.cell (p := ⟨w.heap.size + 1, 0, none⟩) (by go_simp)).trans (by go_simp)
  have lb2_24 : w.heap.size + 2 < w18.heap.size := Nat.lt_of_lt_of_le (by go_simp) hb18.size
  have yb2_0_24 : w18.cell? ⟨w.heap.size + 2, 0, none⟩ = some (.int .i64 x) := (hb18.cell (p := ⟨w.heap.size + 2, 0, none⟩) (by go_simp)).trans (by go_simp)
  have yb2_1_24 : w18.cell? ⟨w.heap.size + 2, 1, none⟩ = some (.int .i64 y) := (hb18.cell (p := ⟨w.heap.size + 2, 1, none⟩) (by go_simp)).trans (by go_simp)
  have yb2_2_24 : w18.cell? ⟨w.heap.size + 2, 2, none⟩ = some (.int .i64 ti) := (hb18.cell (p := ⟨w.heap.size + 2, 2, none⟩) (by go_simp)).trans (by go_simp)
  have lb3_24 : bF3 < w18.heap.size := Nat.lt_of_lt_of_le (by go_simp) hb18.size
  have yb3_0_24 : w18.cell? ⟨bF3, 0, none⟩ = some (.slice V7 (attR gs ts xs t ys x y ti).1.length c7) := (hb18.cell (p := ⟨bF3, 0, none⟩) (by go_simp)).trans (by go_simp)
  have lb4_24 : w9.heap.size < w18.heap.size := Nat.lt_of_lt_of_le (by go_simp) hb18.size
  have yb4_0_24 : w18.cell? ⟨w9.heap.size, 0, none⟩ = some (.slice G9 n n) := (hb18.cell (p := ⟨w9.heap.size, 0, none⟩) (by go_simp)).trans (by go_simp)
  have yb4_1_24 : w18.cell? ⟨w9.heap.size, 1, none⟩ = some (.slice T9 m m) := (hb18.cell (p := ⟨w9.heap.size, 1, none⟩) (by go_simp)).trans (by go_simp)
  have yb4_2_24 : w18.cell? ⟨w9.heap.size, 2, none⟩ = some (.slice A9 q q) := (hb18.cell (p := ⟨w9.heap.size, 2, none⟩) (by go_simp)).trans (by go_simp)
  have yb4_3_24 : w18.cell? ⟨w9.heap.size, 3, none⟩ = some (.int .i64 t) := (hb18.cell (p := ⟨w9.heap.size, 3, none⟩) (by go_simp)).trans (by go_simp)
  have lb5_24 : w10.heap.size < w18.heap.size := Nat.lt_of_lt_of_le (by go_simp) hb18.size
  have yb5_0_24 : w18.cell? ⟨w10.heap.size, 0, none⟩ = some (.slice A10 nb nb) := (hb18.cell (p := ⟨w10.heap.size, 0, none⟩) (by go_simp)).trans (by go_simp)
  have lb6_24 : bF12 < w18.heap.size := Nat.lt_of_lt_of_le (by go_simp) hb18.size
  have yb6_0_24 : w18.cell? ⟨bF12, 0, none⟩ = some (.slice V14 (attR gs ts xs t ys x y ti).1.length c14) := (hb18.cell (p := ⟨bF12, 0, none⟩) (by go_simp)).trans (by go_simp)
  clear yb6_0_23 lb6_23 yb5_0_23 lb5_23 yb4_3_23 yb4_2_23 yb4_1_23 yb4_0_23 lb4_23 yb3_0_23 lb3_23 yb2_2_23 yb2_1_23 yb2_0_23 lb2_23 yb1_0_23 lb1_23 yb0_3_23 yb0_2_23 yb0_1_23 yb0_0_23 lb0_23 kc17 krV12_23 kc10_23 kc9_23 krV3_23 kw_23 s24
  clear hb18
  repeat (first | ((with_reducible refine wpD_p (fun K hK => ?_)); go_simp; refine hK _ ?_; clear hK K) | ((with_reducible refine wpD_q (fun K hK => ?_)); go_simp; (first | refine hK _ ?_ | (go_bits; refine hK _ ?_) | (go_bits; go_simp; refine hK _ ?_)); clear hK K))
  with_reducible refine wpD_nil ?_
  go_wp2_with fail
  refine wp_region_ord [(0, .q), (1, .q), (2, .g), (3, .g), (4, .q)] (by kernel_rfl) (by kernel_rfl) ?_
  simp only [pick, List.filterMap_cons, List.filterMap_nil, List.getElem?_toArray, List.getElem?_cons_zero, List.getElem?_cons_succ, Option.map_some]
  repeat (first | ((with_reducible refine wpD_p (fun K hK => ?_)); go_simp; refine hK _ ?_; clear hK K) | ((with_reducible refine wpD_q (fun K hK => ?_)); go_simp; (first | refine hK _ ?_ | (go_bits; refine hK _ ?_) | (go_bits; go_simp; refine hK _ ?_)); clear hK K))
  with_reducible refine wpD_g (fun K hK => ?_)
  go_simp
  refine (toAssembly_any _ _ _ ys _ (hC.below RPl.stable bk_) (by omega)).mono ?_
  rintro e w19 ⟨A19, rfl, o19, hb19⟩
  refine ⟨_, rfl, hb19, hK _ _ ?_⟩
  clear hK K
  have s25 : w18.heap.size ≤ w19.heap.size := by have := hb19.size; (try simp at this); omega
  have s25H := Lib.hid s25
  have kw_25 : Below w.heap.size w w19 := bl_tr bk_ hb19
  have krV3_25 : Below w8.heap.size w8 w19 := bl_tr bk_ hb19
  have kc9_25 : Below w9.heap.size w9 w19 := bl_tr bk_ hb19
  have kc10_25 : Below w10.heap.size w10 w19 := bl_tr bk_ hb19
  have krV12_25 : Below w15.heap.size w15 w19 := bl_tr bk_ hb19
  have kc17_25 : Below w17.heap.size w17 w19 := bl_tr bk_ hb19
  have lb0_25 : w.heap.size < w19.heap.size := Nat.lt_of_lt_of_le (by go_simp) hb19.size
  have yb0_0_25 : w19.cell? ⟨w.heap.size, 0, none⟩ = some (.slice G n cg) := (hb19.cell (p := ⟨w.heap.size, 0, none⟩) (by go_simp)).trans (by go_simp)
  have yb0_1_25 : w19.cell? ⟨w.heap.size, 1, none⟩ = some (.slice T m ct) := (hb19.cell (p := ⟨w.heap.size, 1, none⟩) (by go_simp)).trans (by go_simp)
  have yb0_2_25 : w19.cell? ⟨w.heap.size, 2, none⟩ = some (.slice A q ca) := (hb19.cell (p := ⟨w.heap.size, 2, none⟩) (by go_simp)).trans (by go_simp)
  have yb0_3_25 : w19.cell? ⟨w.heap.size, 3, none⟩ = some (.int .i64 t) := (hb19.cell (p := ⟨w.heap.size, 3, none⟩) (by go_simp)).trans (by go_simp)
  have lb1_25 : w.heap.size + 1 < w19.heap.size := Nat.lt_of_lt_of_le (by go_simp) hb19.size
  have yb1_0_25 : w19.cell? ⟨w.heap.size + 1, 0, none⟩ = some (.slice C nb cb) := (hb19.cell (p := ⟨w.heap.size + 1, 0, none⟩) (by go_simp)).trans (by go_simp)
  have lb2_25 : w.heap.size + 2 < w19.heap.size := Nat.lt_of_lt_of_le (by go_simp) hb19.size
  have yb2_0_25 : w19.cell? ⟨w.heap.size + 2, 0, none⟩ = some (.int .i64 x) := (hb19.cell (p := ⟨w.heap.size + 2, 0, none⟩) (by go_simp)).trans (by go_simp)
  have yb2_1_25 : w19.cell? ⟨w.heap.size + 2, 1, none⟩ = some (.int .i64 y) := (hb19.cell (p := ⟨w.heap.size + 2, 1, none⟩) (by go_simp)).trans (by go_simp)
  have yb2_2_25 : w19.cell? ⟨w.heap.size + 2, 2, none⟩ = some (.int .i64 ti) := (hb19.cell (p := ⟨w.heap.size + 2, 2, none⟩) (by go_simp)).trans (by go_simp)
  have lb3_25 : bF3 < w19.heap.size := Nat.lt_of_lt_of_le (by go_simp) hb19.size
  have yb3_0_25 : w19.cell? ⟨bF3, 0, none⟩ = some (.slice V7 (attR gs ts xs t ys x y ti).1.length c7) := (hb19.cell (p := ⟨bF3, 0, none⟩) (by go_simp)).trans (by go_simp)
  have lb4_25 : w9.heap.size < w19.heap.size := Nat.lt_of_lt_of_le (by go_simp) hb19.size
  have yb4_0_25 : w19.cell? ⟨w9.heap.size, 0, none⟩ = some (.slice G9 n n) := (hb19.cell (p := ⟨w9.heap.size, 0, none⟩) (by go_simp)).trans (by go_simp)
  have yb4_1_25 : w19.cell? ⟨w9.heap.size, 1, none⟩ = some (.slice T9 m m) := (hb19.cell (p := ⟨w9.heap.size, 1, none⟩) (by go_simp)).trans (by go_simp)
  have yb4_2_25 : w19.cell? ⟨w9.heap.size, 2, none⟩ = some (.slice A9 q q) := (hb19.cell (p := ⟨w9.heap.size, 2, none⟩) (by go_simp)).trans (by go_simp)
  have yb4_3_25 : w19.cell? ⟨w9.heap.size, 3, none⟩ = some (.int .i64 t) := (hb19.cell (p := ⟨w9.heap.size, 3, none⟩) (by go_simp)).trans (by go_simp)
  have lb5_25 : w10.heap.size < w19.heap.size := Nat.lt_of_lt_of_le (by go_simp) hb19.size
  have yb5_0_25 : w19.cell? ⟨w10.heap.size, 0, none⟩ = some (.slice A10 nb nb) := (hb19.cell (p := ⟨w10.heap.size, 0, none⟩) (by go_simp)).trans (by go_simp)
  have lb6_25 : bF12 < w19.heap.size := Nat.lt_of_lt_of_le (by go_simp) hb19.size
  have yb6_0_25 : w19.cell? ⟨bF12, 0, none⟩ = some (.slice V14 (attR gs ts xs t ys x y ti).1.length c14) := (hb19.cell (p := ⟨bF12, 0, none⟩) (by go_simp)).trans (by go_simp)
  clear yb6_0_24 lb6_24 yb5_0_24 lb5_24 yb4_3_24 yb4_2_24 yb4_1_24 yb4_0_24 lb4_24 yb3_0_24 lb3_24 yb2_2_24 yb2_1_24 yb2_0_24 lb2_24 yb1_0_24 lb1_24 yb0_3_24 yb0_2_24 yb0_1_24 yb0_0_24 lb0_24 kc17_24 krV12_24 kc10_24 kc9_24 krV3_24 kw_24 s25
  clear hb19
  have kc19 : Below w19.heap.size w19 w19 := bl_refl _
  have o19H := Lib.hid o19
  clear o19
  with_reducible refine wpD_g (fun K hK => ?_)
  go_simp
  refine (eqAssembly_same _ _ _ _ _ ys _ (o10H.out.rd.below RPl.stable bk_) (o19H.out.rd.below RPl.stable bk_) (by omega)).mono ?_
  rintro e w20 ⟨rfl, hb20⟩
  refine ⟨_, rfl, hb20, hK _ _ ?_⟩
  clear hK K
  have s26 : w19.heap.size ≤ w20.heap.size := by have := hb20.size; (try simp at this); omega
  have s26H := Lib.hid s26
  have kw_26 : Below w.heap.size w w20 := bl_tr bk_ hb20
  have krV3_26 : Below w8.heap.size w8 w20 := bl_tr bk_ hb20
  have kc9_26 : Below w9.heap.size w9 w20 := bl_tr bk_ hb20
  have kc10_26 : Below w10.heap.size w10 w20 := bl_tr bk_ hb20
  have krV12_26 : Below w15.heap.size w15 w20 := bl_tr bk_ hb20
  have kc17_26 : Below w17.heap.size w17 w20 := bl_tr bk_ hb20
  have kc19_26 : Below w19.heap.size w19 w20 := bl_tr bk_ hb20
  have lb0_26 : w.heap.size < w20.heap.size := Nat.lt_of_lt_of_le (by go_simp) hb20.size
  have yb0_0_26 : w20.cell? ⟨w.heap.size, 0, none⟩ = some (.slice G n cg) := (hb20.cell (p := ⟨w.heap.size, 0, none⟩) (by go_simp)).trans (by go_simp)
  have yb0_1_26 : w20.cell? ⟨w.heap.size, 1, none⟩ = some (.slice T m ct) := (hb20.cell (p := ⟨w.heap.size, 1, none⟩) (by go_simp)).trans (by go_simp)
  have yb0_2_26 : w20.cell? ⟨w.heap.size, 2, none⟩ = some (.slice A q ca) := (hb20.cell (p := ⟨w.heap.size, 2, none⟩) (by go_simp)).trans (by go_simp)
  have yb0_3_26 : w20.cell? ⟨w.heap.size, 3, none⟩ = some (.int .i64 t) := (hb20.cell (p := ⟨w.heap.size, 3, none⟩) (by go_simp)).trans (by go_simp)
  have lb1_26 : w.heap.size + 1 < w20.heap.size := Nat.lt_of_lt_of_le (by go_simp) hb20.size
  have yb1_0_26 : w20.cell? ⟨w.heap.size + 1, 0, none⟩ = some (.slice C nb cb) := (hb20.cell (p := ⟨w.heap.size + 1, 0, none⟩) (by go_simp)).trans (by go_simp)
  have lb2_26 : w.heap.size + 2 < w20.heap.size := Nat.lt_of_lt_of_le (by go_simp) hb20.size
  have yb2_0_26 : w20.cell? ⟨w.heap.size + 2, 0, none⟩ = some (.int .i64 x) := (hb20.cell (p := ⟨w.heap.size + 2, 0, none⟩) (by go_simp)).trans (by go_simp)
  have yb2_1_26 : w20.cell? ⟨w.heap.size + 2, 1, none⟩ = some (.int .i64 y) := (hb20.cell (p := ⟨w.heap.size + 2, 1, none⟩) (by go_simp)).trans (by go_simp)
  have yb2_2_26 : w20.cell? ⟨w.heap.size + 2, 2, none⟩ = some (.int .i64 ti) := (hb20.cell (p := ⟨w.heap.size + 2, 2, none⟩) (by go_simp)).trans (by go_simp)
  have lb3_26 : bF3 < w20.heap.size := Nat.lt_of_lt_of_le (by go_simp) hb20.size
  have yb3_0_26 : w20.cell? ⟨bF3, 0, none⟩ = some (.slice V7 (attR gs ts xs t ys x y ti).1.length c7) := (hb20.cell (p := ⟨bF3, 0, none⟩) (by go_simp)).trans (by go_simp)
  have lb4_26 : w9.heap.size < w20.heap.size := Nat.lt_of_lt_of_le (by go_simp) hb20.size
  have yb4_0_26 : w20.cell? ⟨w9.heap.size, 0, none⟩ = some (.slice G9 n n) := (hb20.cell (p := ⟨w9.heap.size, 0, none⟩) (by go_simp)).trans (by go_simp)
  have yb4_1_26 : w20.cell? ⟨w9.heap.size, 1, none⟩ = some (.slice T9 m m) := (hb20.cell (p := ⟨w9.heap.size, 1, none⟩) (by go_simp)).trans (by go_simp)
  have yb4_2_26 : w20.cell? ⟨w9.heap.size, 2, none⟩ = some (.slice A9 q q) := (hb20.cell (p := ⟨w9.heap.size, 2, none⟩) (by go_simp)).trans (by go_simp)
  have yb4_3_26 : w20.cell? ⟨w9.heap.size, 3, none⟩ = some (.int .i64 t) := (hb20.cell (p := ⟨w9.heap.size, 3, none⟩) (by go_simp)).trans (by go_simp)
  have lb5_26 : w10.heap.size < w20.heap.size := Nat.lt_of_lt_of_le (by go_simp) hb20.size
  have yb5_0_26 : w20.cell? ⟨w10.heap.size, 0, none⟩ = some (.slice A10 nb nb) := (hb20.cell (p := ⟨w10.heap.size, 0, none⟩) (by go_simp)).trans (by go_simp)
  have lb6_26 : bF12 < w20.heap.size := Nat.lt_of_lt_of_le (by go_simp) hb20.size
  have yb6_0_26 : w20.cell? ⟨bF12, 0, none⟩ = some (.slice V14 (attR gs ts xs t ys x y ti).1.length c14) := (hb20.cell (p := ⟨bF12, 0, none⟩) (by go_simp)).trans (by go_simp)
  clear yb6_0_25 lb6_25 yb5_0_25 lb5_25 yb4_3_25 yb4_2_25 yb4_1_25 yb4_0_25 lb4_25 yb3_0_25 lb3_25 yb2_2_25 yb2_1_25 yb2_0_25 lb2_25 yb1_0_25 lb1_25 yb0_3_25 yb0_2_25 yb0_1_25 yb0_0_25 lb0_25 kc19 kc17_25 krV12_25 kc10_25 kc9_25 krV3_25 kw_25 s26
  clear hb20
  repeat (first | ((with_reducible refine wpD_p (fun K hK => ?_)); go_simp; refine hK _ ?_; clear hK K) | ((with_reducible refine wpD_q (fun K hK => ?_)); go_simp; (first | refine hK _ ?_ | (go_bits; refine hK _ ?_) | (go_bits; go_simp; refine hK _ ?_)); clear hK K))
  with_reducible refine wpD_nil ?_
  go_wp2_with fail
  have sB0H := Lib.hid lb0_26
  have sB1H := Lib.hid lb1_26
  have sB2H := Lib.hid lb2_26
  have sB3H := Lib.hid lb3_26
  have sB4H := Lib.hid lb4_26
  have sB5H := Lib.hid lb5_26
  have sB6H := Lib.hid lb6_26
  have MS9 := Lib.hid ((ms9H.out.lo_ (lo' := (w8.heap.size)) om_).below kc9_26 (Nat.le_refl _))
  have MA10 := Lib.hid (((o10H.out.mk_).lo_ (lo' := (w9.heap.size + 1)) om_).below kc10_26 (Nat.le_refl _))
  have OG14a := Lib.hid (ownsRow_base (base' := (w14u.heap.size)) (ownsRow_below vV14_0H.out krV12_26) om_)
  refine (markSystem_any _ _ _ n _ m _ q _ 1 (w8.heap.size) _ w9.heap.size _ _ (MkSys.below MS9.out bk_ om_) om_ om_ (by omega)).mono ?_
  rintro e w21 ⟨r21, rfl, hr211, hr212, hm21⟩
  clear MS9
  have s27 : w20.heap.size ≤ w21.heap.size := by have := hm21.size; (try simp at this); omega
  have s27H := Lib.hid s27
  have kw_27 : Below w.heap.size w w21 := Below.trans bk_ (hm21.below.mono om_)
  have krV3_27 : Below w8.heap.size w8 w21 := Below.trans bk_ (hm21.below.mono om_)
  have lb0_27 : w.heap.size < w21.heap.size := Nat.lt_of_lt_of_le (by go_simp) hm21.size
  have yb0_0_27 : w21.cell? ⟨w.heap.size, 0, none⟩ = some (.slice G n cg) := (hm21.below.cell (p := ⟨w.heap.size, 0, none⟩) om_).trans (by go_simp)
  have yb0_1_27 : w21.cell? ⟨w.heap.size, 1, none⟩ = some (.slice T m ct) := (hm21.below.cell (p := ⟨w.heap.size, 1, none⟩) om_).trans (by go_simp)
  have yb0_2_27 : w21.cell? ⟨w.heap.size, 2, none⟩ = some (.slice A q ca) := (hm21.below.cell (p := ⟨w.heap.size, 2, none⟩) om_).trans (by go_simp)
  have yb0_3_27 : w21.cell? ⟨w.heap.size, 3, none⟩ = some (.int .i64 t) := (hm21.below.cell (p := ⟨w.heap.size, 3, none⟩) om_).trans (by go_simp)
  have lb1_27 : w.heap.size + 1 < w21.heap.size := Nat.lt_of_lt_of_le (by go_simp) hm21.size
  have yb1_0_27 : w21.cell? ⟨w.heap.size + 1, 0, none⟩ = some (.slice C nb cb) := (hm21.below.cell (p := ⟨w.heap.size + 1, 0, none⟩) om_).trans (by go_simp)
  have lb2_27 : w.heap.size + 2 < w21.heap.size := Nat.lt_of_lt_of_le (by go_simp) hm21.size
  have yb2_0_27 : w21.cell? ⟨w.heap.size + 2, 0, none⟩ = some (.int .i64 x) := (hm21.below.cell (p := ⟨w.heap.size + 2, 0, none⟩) om_).trans (by go_simp)
  have yb2_1_27 : w21.cell? ⟨w.heap.size + 2, 1, none⟩ = some (.int .i64 y) := (hm21.below.cell (p := ⟨w.heap.size + 2, 1, none⟩) om_).trans (by go_simp)
  have yb2_2_27 : w21.cell? ⟨w.heap.size + 2, 2, none⟩ = some (.int .i64 ti) := (hm21.below.cell (p := ⟨w.heap.size + 2, 2, none⟩) om_).trans (by go_simp)
  have lb3_27 : bF3 < w21.heap.size := Nat.lt_of_lt_of_le (by go_simp) hm21.size
  have yb3_0_27 : w21.cell? ⟨bF3, 0, none⟩ = some (.slice V7 (attR gs ts xs t ys x y ti).1.length c7) := (hm21.below.cell (p := ⟨bF3, 0, none⟩) om_).trans (by go_simp)
  have lb4_27 : w9.heap.size < w21.heap.size := Nat.lt_of_lt_of_le (by go_simp) hm21.size
  have yb4_0_27 : w21.cell? ⟨w9.heap.size, 0, none⟩ = some (.slice G9 n n) := (World.cell?_of_block (a := ⟨w9.heap.size, 0, none⟩) (hm21.keep (w9.heap.size) om_ (by go_simp))).trans (by go_simp)
  have yb4_1_27 : w21.cell? ⟨w9.heap.size, 1, none⟩ = some (.slice T9 m m) := (World.cell?_of_block (a := ⟨w9.heap.size, 1, none⟩) (hm21.keep (w9.heap.size) om_ (by go_simp))).trans (by go_simp)
  have yb4_2_27 : w21.cell? ⟨w9.heap.size, 2, none⟩ = some (.slice A9 q q) := (World.cell?_of_block (a := ⟨w9.heap.size, 2, none⟩) (hm21.keep (w9.heap.size) om_ (by go_simp))).trans (by go_simp)
  have yb4_3_27 : w21.cell? ⟨w9.heap.size, 3, none⟩ = some (.int .i64 t) := (World.cell?_of_block (a := ⟨w9.heap.size, 3, none⟩) (hm21.keep (w9.heap.size) om_ (by go_simp))).trans (by go_simp)
  have lb5_27 : w10.heap.size < w21.heap.size := Nat.lt_of_lt_of_le (by go_simp) hm21.size
  have yb5_0_27 : w21.cell? ⟨w10.heap.size, 0, none⟩ = some (.slice A10 nb nb) := (World.cell?_of_block (a := ⟨w10.heap.size, 0, none⟩) (hm21.keep (w10.heap.size) om_ (by go_simp))).trans (by go_simp)
  have lb6_27 : bF12 < w21.heap.size := Nat.lt_of_lt_of_le (by go_simp) hm21.size
  have yb6_0_27 : w21.cell? ⟨bF12, 0, none⟩ = some (.slice V14 (attR gs ts xs t ys x y ti).1.length c14) := (World.cell?_of_block (a := ⟨bF12, 0, none⟩) (Mk.either (k := bF12) hm21 om_ (by go_simp))).trans (by go_simp)
  have MA10_27 := Lib.hid (MkRow.mk (MkRow.below (MA10.out) bk_ om_) hm21 om_ om_)
  have OG14a_27 := Lib.hid (ownsRow_mk (ownsRow_below OG14a.out bk_) hm21 om_)
  clear OG14a MA10 yb6_0_26 lb6_26 yb5_0_26 lb5_26 yb4_3_26 yb4_2_26 yb4_1_26 yb4_0_26 lb4_26 yb3_0_26 lb3_26 yb2_2_26 yb2_1_26 yb2_0_26 lb2_26 yb1_0_26 lb1_26 yb0_3_26 yb0_2_26 yb0_1_26 yb0_0_26 lb0_26 kc19_26 kc17_26 krV12_26 kc10_26 kc9_26 krV3_26 kw_26 s27
  clear hm21
  go_wp2_with fail
  refine (markAssembly_any2 _ nb _ r21 (w9.heap.size + 1) w10.heap.size _ (MkRow.below MA10_27.out bk_ om_) om_ om_ (by omega)).mono ?_
  rintro e w22 ⟨r22, rfl, hr221, hr222, hm22⟩
  clear MA10_27
  have s28 : w21.heap.size ≤ w22.heap.size := by have := hm22.size; (try simp at this); omega
  have s28H := Lib.hid s28
  have kw_28 : Below w.heap.size w w22 := Below.trans bk_ (hm22.below.mono om_)
  have krV3_28 : Below w8.heap.size w8 w22 := Below.trans bk_ (hm22.below.mono om_)
  have lb0_28 : w.heap.size < w22.heap.size := Nat.lt_of_lt_of_le (by go_simp) hm22.size
  have yb0_0_28 : w22.cell? ⟨w.heap.size, 0, none⟩ = some (.slice G n cg) := (hm22.below.cell (p := ⟨w.heap.size, 0, none⟩) om_).trans (by go_simp)
  have yb0_1_28 : w22.cell? ⟨w.heap.size, 1, none⟩ = some (.slice T m ct) := (hm22.below.cell (p := ⟨w.heap.size, 1, none⟩) om_).trans (by go_simp)
  have yb0_2_28 : w22.cell? ⟨w.heap.size, 2, none⟩ = some (.slice A q ca) := (hm22.below.cell (p := ⟨w.heap.size, 2, none⟩) om_).trans (by go_simp)
  have yb0_3_28 : w22.cell? ⟨w.heap.size, 3, none⟩ = some (.int .i64 t) := (hm22.below.cell (p := ⟨w.heap.size, 3, none⟩) om_).trans (by go_simp)
  have lb1_28 : w.heap.size + 1 < w22.heap.size := Nat.lt_of_lt_of_le (by go_simp) hm22.size
  have yb1_0_28 : w22.cell? ⟨w.heap.size + 1, 0, none⟩ = some (.slice C nb cb) := (hm22.below.cell (p := ⟨w.heap.size + 1, 0, none⟩) om_).trans (by go_simp)
  have lb2_28 : w.heap.size + 2 < w22.heap.size := Nat.lt_of_lt_of_le (by go_simp) hm22.size
  have yb2_0_28 : w22.cell? ⟨w.heap.size + 2, 0, none⟩ = some (.int .i64 x) := (hm22.below.cell (p := ⟨w.heap.size + 2, 0, none⟩) om_).trans (by go_simp)
  have yb2_1_28 : w22.cell? ⟨w.heap.size + 2, 1, none⟩ = some (.int .i64 y) := (hm22.below.cell (p := ⟨w.heap.size + 2, 1, none⟩) om_).trans (by go_simp)
  have yb2_2_28 : w22.cell? ⟨w.heap.size + 2, 2, none⟩ = some (.int .i64 ti) := (hm22.below.cell (p := ⟨w.heap.size + 2, 2, none⟩) om_).trans (by go_simp)
  have lb3_28 : bF3 < w22.heap.size := Nat.lt_of_lt_of_le (by go_simp) hm22.size
  have yb3_0_28 : w22.cell? ⟨bF3, 0, none⟩ = some (.slice V7 (attR gs ts xs t ys x y ti).1.length c7) := (hm22.below.cell (p := ⟨bF3, 0, none⟩) om_).trans (by go_simp)
  have lb4_28 : w9.heap.size < w22.heap.size := Nat.lt_of_lt_of_le (by go_simp) hm22.size
  have yb4_0_28 : w22.cell? ⟨w9.heap.size, 0, none⟩ = some (.slice G9 n n) := (hm22.below.cell (p := ⟨w9.heap.size, 0, none⟩) om_).trans (by go_simp)
  have yb4_1_28 : w22.cell? ⟨w9.heap.size, 1, none⟩ = some (.slice T9 m m) := (hm22.below.cell (p := ⟨w9.heap.size, 1, none⟩) om_).trans (by go_simp)
  have yb4_2_28 : w22.cell? ⟨w9.heap.size, 2, none⟩ = some (.slice A9 q q) := (hm22.below.cell (p := ⟨w9.heap.size, 2, none⟩) om_).trans (by go_simp)
  have yb4_3_28 : w22.cell? ⟨w9.heap.size, 3, none⟩ = some (.int .i64 t) := (hm22.below.cell (p := ⟨w9.heap.size, 3, none⟩) om_).trans (by go_simp)
  have lb5_28 : w10.heap.size < w22.heap.size := Nat.lt_of_lt_of_le (by go_simp) hm22.size
  have yb5_0_28 : w22.cell? ⟨w10.heap.size, 0, none⟩ = some (.slice A10 nb nb) := (World.cell?_of_block (a := ⟨w10.heap.size, 0, none⟩) (hm22.keep (w10.heap.size) om_ (by go_simp))).trans (by go_simp)
  have lb6_28 : bF12 < w22.heap.size := Nat.lt_of_lt_of_le (by go_simp) hm22.size
  have yb6_0_28 : w22.cell? ⟨bF12, 0, none⟩ = some (.slice V14 (attR gs ts xs t ys x y ti).1.length c14) := (World.cell?_of_block (a := ⟨bF12, 0, none⟩) (Mk.either (k := bF12) hm22 om_ (by go_simp))).trans (by go_simp)
  have OG14a_28 := Lib.hid (ownsRow_mk (ownsRow_below OG14a_27.out bk_) hm22 om_)
  clear OG14a_27 yb6_0_27 lb6_27 yb5_0_27 lb5_27 yb4_3_27 yb4_2_27 yb4_1_27 yb4_0_27 lb4_27 yb3_0_27 lb3_27 yb2_2_27 yb2_1_27 yb2_0_27 lb2_27 yb1_0_27 lb1_27 yb0_3_27 yb0_2_27 yb0_1_27 yb0_0_27 lb0_27 krV3_27 kw_27 s28
  clear hm22
  go_wp2_with fail
  refine (eqAssembly_same _ _ _ _ _ (attR gs ts xs t ys x y ti).1 _ ((rdPl OG14a_28.out).below RPl.stable bk_) ((rdPl vV7_0H.out).below RPl.stable bk_) hRl.out).mono ?_
  rintro e w23 ⟨rfl, hb23⟩
  have s29 : w22.heap.size ≤ w23.heap.size := by have := hb23.size; (try simp at this); omega
  have s29H := Lib.hid s29
  have kw_29 : Below w.heap.size w w23 := bl_tr bk_ hb23
  have krV3_29 : Below w8.heap.size w8 w23 := bl_tr bk_ hb23
  have lb0_29 : w.heap.size < w23.heap.size := Nat.lt_of_lt_of_le (by go_simp) hb23.size
  have yb0_0_29 : w23.cell? ⟨w.heap.size, 0, none⟩ = some (.slice G n cg) := (hb23.cell (p := ⟨w.heap.size, 0, none⟩) (by go_simp)).trans (by go_simp)
  have yb0_1_29 : w23.cell? ⟨w.heap.size, 1, none⟩ = some (.slice T m ct) := (hb23.cell (p := ⟨w.heap.size, 1, none⟩) (by go_simp)).trans (by go_simp)
  have yb0_2_29 : w23.cell? ⟨w.heap.size, 2, none⟩ = some (.slice A q ca) := (hb23.cell (p := ⟨w.heap.size, 2, none⟩) (by go_simp)).trans (by go_simp)
  have yb0_3_29 : w23.cell? ⟨w.heap.size, 3, none⟩ = some (.int .i64 t) := (hb23.cell (p := ⟨w.heap.size, 3, none⟩) (by go_simp)).trans (by go_simp)
  have lb1_29 : w.heap.size + 1 < w23.heap.size := Nat.lt_of_lt_of_le (by go_simp) hb23.size
  have yb1_0_29 : w23.cell? ⟨w.heap.size + 1, 0, none⟩ = some (.slice C nb cb) := (hb23.cell (p := ⟨w.heap.size + 1, 0, none⟩) (by go_simp)).trans (by go_simp)
  have lb2_29 : w.heap.size + 2 < w23.heap.size := Nat.lt_of_lt_of_le (by go_simp) hb23.size
  have yb2_0_29 : w23.cell? ⟨w.heap.size + 2, 0, none⟩ = some (.int .i64 x) := (hb23.cell (p := ⟨w.heap.size + 2, 0, none⟩) (by go_simp)).trans (by go_simp)
  have yb2_1_29 : w23.cell? ⟨w.heap.size + 2, 1, none⟩ = some (.int .i64 y) := (hb23.cell (p := ⟨w.heap.size + 2, 1, none⟩) (by go_simp)).trans (by go_simp)
  have yb2_2_29 : w23.cell? ⟨w.heap.size + 2, 2, none⟩ = some (.int .i64 ti) := (hb23.cell (p := ⟨w.heap.size + 2, 2, none⟩) (by go_simp)).trans (by go_simp)
  have lb3_29 : bF3 < w23.heap.size := Nat.lt_of_lt_of_le (by go_simp) hb23.size
  have yb3_0_29 : w23.cell? ⟨bF3, 0, none⟩ = some (.slice V7 (attR gs ts xs t ys x y ti).1.length c7) := (hb23.cell (p := ⟨bF3, 0, none⟩) (by go_simp)).trans (by go_simp)
  have lb4_29 : w9.heap.size < w23.heap.size := Nat.lt_of_lt_of_le (by go_simp) hb23.size
  have yb4_0_29 : w23.cell? ⟨w9.heap.size, 0, none⟩ = some (.slice G9 n n) := (hb23.cell (p := ⟨w9.heap.size, 0, none⟩) (by go_simp)).trans (by go_simp)
  have yb4_1_29 : w23.cell? ⟨w9.heap.size, 1, none⟩ = some (.slice T9 m m) := (hb23.cell (p := ⟨w9.heap.size, 1, none⟩) (by go_simp)).trans (by go_simp)
  have yb4_2_29 : w23.cell? ⟨w9.heap.size, 2, none⟩ = some (.slice A9 q q) := (hb23.cell (p := ⟨w9.heap.size, 2, none⟩) (by go_simp)).trans (by go_simp)
  have yb4_3_29 : w23.cell? ⟨w9.heap.size, 3, none⟩ = some (.int .i64 t) := (hb23.cell (p := ⟨w9.heap.size, 3, none⟩) (by go_simp)).trans (by go_simp)
  have lb5_29 : w10.heap.size < w23.heap.size := Nat.lt_of_lt_of_le (by go_simp) hb23.size
  have yb5_0_29 : w23.cell? ⟨w10.heap.size, 0, none⟩ = some (.slice A10 nb nb) := (hb23.cell (p := ⟨w10.heap.size, 0, none⟩) (by go_simp)).trans (by go_simp)
  have lb6_29 : bF12 < w23.heap.size := Nat.lt_of_lt_of_le (by go_simp) hb23.size
  have yb6_0_29 : w23.cell? ⟨bF12, 0, none⟩ = some (.slice V14 (attR gs ts xs t ys x y ti).1.length c14) := (hb23.cell (p := ⟨bF12, 0, none⟩) (by go_simp)).trans (by go_simp)
  have OG14a_29 := Lib.hid (ownsRow_below (ownsRow_below OG14a_28.out bk_) hb23)
  clear OG14a_28 yb6_0_28 lb6_28 yb5_0_28 lb5_28 yb4_3_28 yb4_2_28 yb4_1_28 yb4_0_28 lb4_28 yb3_0_28 lb3_28 yb2_2_28 yb2_1_28 yb2_0_28 lb2_28 yb1_0_28 lb1_28 yb0_3_28 yb0_2_28 yb0_1_28 yb0_0_28 lb0_28 krV3_28 kw_28 s29
  clear hb23
  go_wp2_with fail
  refine (markAssembly_c _ _ _ 1 (w14u.heap.size) _ _ (mkRow_hi (ownsRow_below OG14a_29.out bk_) hv14H.out) om_ om_ (by have := hRl.out; omega)).mono ?_
  rintro e w24 ⟨rfl, hm24, mc24⟩
  clear OG14a_29
  have s30 : w23.heap.size ≤ w24.heap.size := by have := hm24.size; (try simp at this); omega
  have s30H := Lib.hid s30
  have kw_30 : Below w.heap.size w w24 := Below.trans bk_ (hm24.below.mono om_)
  have krV3_30 : Below w8.heap.size w8 w24 := Below.trans bk_ (hm24.below.mono om_)
  have lb0_30 : w.heap.size < w24.heap.size := Nat.lt_of_lt_of_le (by go_simp) hm24.size
  have yb0_0_30 : w24.cell? ⟨w.heap.size, 0, none⟩ = some (.slice G n cg) := (hm24.below.cell (p := ⟨w.heap.size, 0, none⟩) om_).trans (by go_simp)
  have yb0_1_30 : w24.cell? ⟨w.heap.size, 1, none⟩ = some (.slice T m ct) := (hm24.below.cell (p := ⟨w.heap.size, 1, none⟩) om_).trans (by go_simp)
  have yb0_2_30 : w24.cell? ⟨w.heap.size, 2, none⟩ = some (.slice A q ca) := (hm24.below.cell (p := ⟨w.heap.size, 2, none⟩) om_).trans (by go_simp)
  have yb0_3_30 : w24.cell? ⟨w.heap.size, 3, none⟩ = some (.int .i64 t) := (hm24.below.cell (p := ⟨w.heap.size, 3, none⟩) om_).trans (by go_simp)
  have lb1_30 : w.heap.size + 1 < w24.heap.size := Nat.lt_of_lt_of_le (by go_simp) hm24.size
  have yb1_0_30 : w24.cell? ⟨w.heap.size + 1, 0, none⟩ = some (.slice C nb cb) := (hm24.below.cell (p := ⟨w.heap.size + 1, 0, none⟩) om_).trans (by go_simp)
  have lb2_30 : w.heap.size + 2 < w24.heap.size := Nat.lt_of_lt_of_le (by go_simp) hm24.size
  have yb2_0_30 : w24.cell? ⟨w.heap.size + 2, 0, none⟩ = some (.int .i64 x) := (hm24.below.cell (p := ⟨w.heap.size + 2, 0, none⟩) om_).trans (by go_simp)
  have yb2_1_30 : w24.cell? ⟨w.heap.size + 2, 1, none⟩ = some (.int .i64 y) := (hm24.below.cell (p := ⟨w.heap.size + 2, 1, none⟩) om_).trans (by go_simp)
  have yb2_2_30 : w24.cell? ⟨w.heap.size + 2, 2, none⟩ = some (.int .i64 ti) := (hm24.below.cell (p := ⟨w.heap.size + 2, 2, none⟩) om_).trans (by go_simp)
  have lb3_30 : bF3 < w24.heap.size := Nat.lt_of_lt_of_le (by go_simp) hm24.size
  have yb3_0_30 : w24.cell? ⟨bF3, 0, none⟩ = some (.slice V7 (attR gs ts xs t ys x y ti).1.length c7) := (hm24.below.cell (p := ⟨bF3, 0, none⟩) om_).trans (by go_simp)
  have lb4_30 : w9.heap.size < w24.heap.size := Nat.lt_of_lt_of_le (by go_simp) hm24.size
  have yb4_0_30 : w24.cell? ⟨w9.heap.size, 0, none⟩ = some (.slice G9 n n) := (hm24.below.cell (p := ⟨w9.heap.size, 0, none⟩) om_).trans (by go_simp)
  have yb4_1_30 : w24.cell? ⟨w9.heap.size, 1, none⟩ = some (.slice T9 m m) := (hm24.below.cell (p := ⟨w9.heap.size, 1, none⟩) om_).trans (by go_simp)
  have yb4_2_30 : w24.cell? ⟨w9.heap.size, 2, none⟩ = some (.slice A9 q q) := (hm24.below.cell (p := ⟨w9.heap.size, 2, none⟩) om_).trans (by go_simp)
  have yb4_3_30 : w24.cell? ⟨w9.heap.size, 3, none⟩ = some (.int .i64 t) := (hm24.below.cell (p := ⟨w9.heap.size, 3, none⟩) om_).trans (by go_simp)
  have lb5_30 : w10.heap.size < w24.heap.size := Nat.lt_of_lt_of_le (by go_simp) hm24.size
  have yb5_0_30 : w24.cell? ⟨w10.heap.size, 0, none⟩ = some (.slice A10 nb nb) := (hm24.below.cell (p := ⟨w10.heap.size, 0, none⟩) om_).trans (by go_simp)
  have lb6_30 : bF12 < w24.heap.size := Nat.lt_of_lt_of_le (by go_simp) hm24.size
  have yb6_0_30 : w24.cell? ⟨bF12, 0, none⟩ = some (.slice V14 (attR gs ts xs t ys x y ti).1.length c14) := (World.cell?_of_block (a := ⟨bF12, 0, none⟩) (Mk.either (k := bF12) hm24 om_ (by go_simp))).trans (by go_simp)
  clear yb6_0_29 lb6_29 yb5_0_29 lb5_29 yb4_3_29 yb4_2_29 yb4_1_29 yb4_0_29 lb4_29 yb3_0_29 lb3_29 yb2_2_29 yb2_1_29 yb2_0_29 lb2_29 yb1_0_29 lb1_29 yb0_3_29 yb0_2_29 yb0_1_29 yb0_0_29 lb0_29 krV3_29 kw_29 s30
  have Mc24 := Lib.hid mc24
  clear mc24 hm24
  go_wp2_with fail
  refine (heldAssembly_any _ _ _ 1 _ _ _ (Marked.below Mc24.out bk_ om_) om_ (by have := hRl.out; omega)).mono ?_
  rintro e w25 ⟨rfl, hb25⟩
  have s31 : w24.heap.size ≤ w25.heap.size := by have := hb25.size; (try simp at this); omega
  have s31H := Lib.hid s31
  have kw_31 : Below w.heap.size w w25 := bl_tr bk_ hb25
  have krV3_31 : Below w8.heap.size w8 w25 := bl_tr bk_ hb25
  have lb0_31 : w.heap.size < w25.heap.size := Nat.lt_of_lt_of_le (by go_simp) hb25.size
  have yb0_0_31 : w25.cell? ⟨w.heap.size, 0, none⟩ = some (.slice G n cg) := (hb25.cell (p := ⟨w.heap.size, 0, none⟩) (by go_simp)).trans (by go_simp)
  have yb0_1_31 : w25.cell? ⟨w.heap.size, 1, none⟩ = some (.slice T m ct) := (hb25.cell (p := ⟨w.heap.size, 1, none⟩) (by go_simp)).trans (by go_simp)
  have yb0_2_31 : w25.cell? ⟨w.heap.size, 2, none⟩ = some (.slice A q ca) := (hb25.cell (p := ⟨w.heap.size, 2, none⟩) (by go_simp)).trans (by go_simp)
  have yb0_3_31 : w25.cell? ⟨w.heap.size, 3, none⟩ = some (.int .i64 t) := (hb25.cell (p := ⟨w.heap.size, 3, none⟩) (by go_simp)).trans (by go_simp)
  have lb1_31 : w.heap.size + 1 < w25.heap.size := Nat.lt_of_lt_of_le (by go_simp) hb25.size
  have yb1_0_31 : w25.cell? ⟨w.heap.size + 1, 0, none⟩ = some (.slice C nb cb) := (hb25.cell (p := ⟨w.heap.size + 1, 0, none⟩) (by go_simp)).trans (by go_simp)
  have lb2_31 : w.heap.size + 2 < w25.heap.size := Nat.lt_of_lt_of_le (by go_simp) hb25.size
  have yb2_0_31 : w25.cell? ⟨w.heap.size + 2, 0, none⟩ = some (.int .i64 x) := (hb25.cell (p := ⟨w.heap.size + 2, 0, none⟩) (by go_simp)).trans (by go_simp)
  have yb2_1_31 : w25.cell? ⟨w.heap.size + 2, 1, none⟩ = some (.int .i64 y) := (hb25.cell (p := ⟨w.heap.size + 2, 1, none⟩) (by go_simp)).trans (by go_simp)
  have yb2_2_31 : w25.cell? ⟨w.heap.size + 2, 2, none⟩ = some (.int .i64 ti) := (hb25.cell (p := ⟨w.heap.size + 2, 2, none⟩) (by go_simp)).trans (by go_simp)
  have lb3_31 : bF3 < w25.heap.size := Nat.lt_of_lt_of_le (by go_simp) hb25.size
  have yb3_0_31 : w25.cell? ⟨bF3, 0, none⟩ = some (.slice V7 (attR gs ts xs t ys x y ti).1.length c7) := (hb25.cell (p := ⟨bF3, 0, none⟩) (by go_simp)).trans (by go_simp)
  have lb4_31 : w9.heap.size < w25.heap.size := Nat.lt_of_lt_of_le (by go_simp) hb25.size
  have yb4_0_31 : w25.cell? ⟨w9.heap.size, 0, none⟩ = some (.slice G9 n n) := (hb25.cell (p := ⟨w9.heap.size, 0, none⟩) (by go_simp)).trans (by go_simp)
  have yb4_1_31 : w25.cell? ⟨w9.heap.size, 1, none⟩ = some (.slice T9 m m) := (hb25.cell (p := ⟨w9.heap.size, 1, none⟩) (by go_simp)).trans (by go_simp)
  have yb4_2_31 : w25.cell? ⟨w9.heap.size, 2, none⟩ = some (.slice A9 q q) := (hb25.cell (p := ⟨w9.heap.size, 2, none⟩) (by go_simp)).trans (by go_simp)
  have yb4_3_31 : w25.cell? ⟨w9.heap.size, 3, none⟩ = some (.int .i64 t) := (hb25.cell (p := ⟨w9.heap.size, 3, none⟩) (by go_simp)).trans (by go_simp)
  have lb5_31 : w10.heap.size < w25.heap.size := Nat.lt_of_lt_of_le (by go_simp) hb25.size
  have yb5_0_31 : w25.cell? ⟨w10.heap.size, 0, none⟩ = some (.slice A10 nb nb) := (hb25.cell (p := ⟨w10.heap.size, 0, none⟩) (by go_simp)).trans (by go_simp)
  have lb6_31 : bF12 < w25.heap.size := Nat.lt_of_lt_of_le (by go_simp) hb25.size
  have yb6_0_31 : w25.cell? ⟨bF12, 0, none⟩ = some (.slice V14 (attR gs ts xs t ys x y ti).1.length c14) := (hb25.cell (p := ⟨bF12, 0, none⟩) (by go_simp)).trans (by go_simp)
  have Mc24_31 := Lib.hid (Marked.below (Marked.below Mc24.out bk_ om_) hb25 om_)
  clear Mc24 yb6_0_30 lb6_30 yb5_0_30 lb5_30 yb4_3_30 yb4_2_30 yb4_1_30 yb4_0_30 lb4_30 yb3_0_30 lb3_30 yb2_2_30 yb2_1_30 yb2_0_30 lb2_30 yb1_0_30 lb1_30 yb0_3_30 yb0_2_30 yb0_1_30 yb0_0_30 lb0_30 krV3_30 kw_30 s31
  clear hb25
  have kR26 : Below w25.heap.size w25 w25 := bl_refl _
  go_wp2_with fail
  refine wp_region_fl 10 [(0, .q), (2, .q), (4, .q), (1, .g), (3, .g), (5, .g), (6, .g), (7, .q), (8, .q), (9, .p)] [(11, .b), (12, .q)] _ (Obj.cells #[.slice none 0 0] 40) (by kernel_rfl) (by kernel_rfl) (by kernel_rfl) (by kernel_rfl) rfl (fun a w => ⟨rfl, by unfold flPtr; go_simp⟩) ?_
  simp only [pick, List.filterMap_cons, List.filterMap_nil, List.getElem?_toArray, List.getElem?_cons_zero, List.getElem?_cons_succ, Option.map_some]
  repeat (first | ((with_reducible refine wpL_p (fun K hK => ?_)); go_simp; refine hK _ ?_; clear hK K) | ((with_reducible refine wpL_q (fun K hK => ?_)); go_simp; (first | refine hK _ ?_ | (go_bits; refine hK _ ?_) | (go_bits; go_simp; refine hK _ ?_)); clear hK K))
  with_reducible refine wpL_g rfl (fun K hK st27 w27u mv27 => ?_)
  have hu27 := mv27.below
  have fu27 := (FlAt.none (Obj.cells #[.slice none 0 0] 40) (World.drew _)).mv mv27
  have Hmv27 := Lib.hid mv27
  clear mv27
  have s32 : w25.heap.size ≤ w27u.heap.size := by have := hu27.size; (try simp at this); omega
  have s32H := Lib.hid s32
  have kw_32 : Below w.heap.size w w27u := bl_tr bk_ hu27
  have krV3_32 : Below w8.heap.size w8 w27u := bl_tr bk_ hu27
  have kR26_32 : Below w25.heap.size w25 w27u := bl_tr bk_ hu27
  have lb0_32 : w.heap.size < w27u.heap.size := Nat.lt_of_lt_of_le (by go_simp) hu27.size
  have yb0_0_32 : w27u.cell? ⟨w.heap.size, 0, none⟩ = some (.slice G n cg) := (hu27.cell (p := ⟨w.heap.size, 0, none⟩) (by go_simp)).trans (by go_simp)
  have yb0_1_32 : w27u.cell? ⟨w.heap.size, 1, none⟩ = some (.slice T m ct) := (hu27.cell (p := ⟨w.heap.size, 1, none⟩) (by go_simp)).trans (by go_simp)
  have yb0_2_32 : w27u.cell? ⟨w.heap.size, 2, none⟩ = some (.slice A q ca) := (hu27.cell (p := ⟨w.heap.size, 2, none⟩) (by go_simp)).trans (by go_simp)
  have yb0_3_32 : w27u.cell? ⟨w.heap.size, 3, none⟩ = some (.int .i64 t) := (hu27.cell (p := ⟨w.heap.size, 3, none⟩) (by go_simp)).trans (by go_simp)
  have lb1_32 : w.heap.size + 1 < w27u.heap.size := Nat.lt_of_lt_of_le (by go_simp) hu27.size
  have yb1_0_32 : w27u.cell? ⟨w.heap.size + 1, 0, none⟩ = some (.slice C nb cb) := (hu27.cell (p := ⟨w.heap.size + 1, 0, none⟩) (by go_simp)).trans (by go_simp)
  have lb2_32 : w.heap.size + 2 < w27u.heap.size := Nat.lt_of_lt_of_le (by go_simp) hu27.size
  have yb2_0_32 : w27u.cell? ⟨w.heap.size + 2, 0, none⟩ = some (.int .i64 x) := (hu27.cell (p := ⟨w.heap.size + 2, 0, none⟩) (by go_simp)).trans (by go_simp)
  have yb2_1_32 : w27u.cell? ⟨w.heap.size + 2, 1, none⟩ = some (.int .i64 y) := (hu27.cell (p := ⟨w.heap.size + 2, 1, none⟩) (by go_simp)).trans (by go_simp)
  have yb2_2_32 : w27u.cell? ⟨w.heap.size + 2, 2, none⟩ = some (.int .i64 ti) := (hu27.cell (p := ⟨w.heap.size + 2, 2, none⟩) (by go_simp)).trans (by go_simp)
  have lb3_32 : bF3 < w27u.heap.size := Nat.lt_of_lt_of_le (by go_simp) hu27.size
  have yb3_0_32 : w27u.cell? ⟨bF3, 0, none⟩ = some (.slice V7 (attR gs ts xs t ys x y ti).1.length c7) := (hu27.cell (p := ⟨bF3, 0, none⟩) (by go_simp)).trans (by go_simp)
  have lb4_32 : w9.heap.size < w27u.heap.size := Nat.lt_of_lt_of_le (by go_simp) hu27.size
  have yb4_0_32 : w27u.cell? ⟨w9.heap.size, 0, none⟩ = some (.slice G9 n n) := (hu27.cell (p := ⟨w9.heap.size, 0, none⟩) (by go_simp)).trans (by go_simp)
  have yb4_1_32 : w27u.cell? ⟨w9.heap.size, 1, none⟩ = some (.slice T9 m m) := (hu27.cell (p := ⟨w9.heap.size, 1, none⟩) (by go_simp)).trans (by go_simp)
  have yb4_2_32 : w27u.cell? ⟨w9.heap.size, 2, none⟩ = some (.slice A9 q q) := (hu27.cell (p := ⟨w9.heap.size, 2, none⟩) (by go_simp)).trans (by go_simp)
  have yb4_3_32 : w27u.cell? ⟨w9.heap.size, 3, none⟩ = some (.int .i64 t) := (hu27.cell (p := ⟨w9.heap.size, 3, none⟩) (by go_simp)).trans (by go_simp)
  have lb5_32 : w10.heap.size < w27u.heap.size := Nat.lt_of_lt_of_le (by go_simp) hu27.size
  have yb5_0_32 : w27u.cell? ⟨w10.heap.size, 0, none⟩ = some (.slice A10 nb nb) := (hu27.cell (p := ⟨w10.heap.size, 0, none⟩) (by go_simp)).trans (by go_simp)
  have lb6_32 : bF12 < w27u.heap.size := Nat.lt_of_lt_of_le (by go_simp) hu27.size
  have yb6_0_32 : w27u.cell? ⟨bF12, 0, none⟩ = some (.slice V14 (attR gs ts xs t ys x y ti).1.length c14) := (hu27.cell (p := ⟨bF12, 0, none⟩) (by go_simp)).trans (by go_simp)
  have Mc24_32 := Lib.hid (Marked.below (Marked.below Mc24_31.out bk_ om_) hu27 om_)
  go_simp
  refine (toSystemM_any _ _ _ _ _ _ _ _ _ gs ts xs _ _ (hG.below RGl.stable bk_) (hT.below RTi.stable bk_) (hA.below RPl.stable bk_) (by omega) (by omega) htsH.out (by omega)).mono ?_
  rintro e w27 ⟨G27, T27, A27, md27, rfl, o27, p27, z27, ms27, hb27⟩
  refine ⟨_, rfl, hb27, hK _ _ _ ?_⟩
  clear hK K
  have fd27 := fu27.below hb27
  have s33 : w27u.heap.size ≤ w27.heap.size := by have := hb27.size; (try simp at this); omega
  have s33H := Lib.hid s33
  have kw_33 : Below w.heap.size w w27 := bl_tr bk_ hb27
  have krV3_33 : Below w8.heap.size w8 w27 := bl_tr bk_ hb27
  have kR26_33 : Below w25.heap.size w25 w27 := bl_tr bk_ hb27
  have lb0_33 : w.heap.size < w27.heap.size := Nat.lt_of_lt_of_le (by go_simp) hb27.size
  have yb0_0_33 : w27.cell? ⟨w.heap.size, 0, none⟩ = some (.slice G n cg) := (hb27.cell (p := ⟨w.heap.size, 0, none⟩) (by go_simp)).trans (by go_simp)
  have yb0_1_33 : w27.cell? ⟨w.heap.size, 1, none⟩ = some (.slice T m ct) := (hb27.cell (p := ⟨w.heap.size, 1, none⟩) (by go_simp)).trans (by go_simp)
  have yb0_2_33 : w27.cell? ⟨w.heap.size, 2, none⟩ = some (.slice A q ca) := (hb27.cell (p := ⟨w.heap.size, 2, none⟩) (by go_simp)).trans (by go_simp)
  have yb0_3_33 : w27.cell? ⟨w.heap.size, 3, none⟩ = some (.int .i64 t) := (hb27.cell (p := ⟨w.heap.size, 3, none⟩) (by go_simp)).trans (by go_simp)
  have lb1_33 : w.heap.size + 1 < w27.heap.size := Nat.lt_of_lt_of_le (by go_simp) hb27.size
  have yb1_0_33 : w27.cell? ⟨w.heap.size + 1, 0, none⟩ = some (.slice C nb cb) := (hb27.cell (p := ⟨w.heap.size + 1, 0, none⟩) (by go_simp)).trans (by go_simp)
  have lb2_33 : w.heap.size + 2 < w27.heap.size := Nat.lt_of_lt_of_le (by go_simp) hb27.size
  have yb2_0_33 : w27.cell? ⟨w.heap.size + 2, 0, none⟩ = some (.int .i64 x) := (hb27.cell (p := ⟨w.heap.size + 2, 0, none⟩) (by go_simp)).trans (by go_simp)
  have yb2_1_33 : w27.cell? ⟨w.heap.size + 2, 1, none⟩ = some (.int .i64 y) := (hb27.cell (p := ⟨w.heap.size + 2, 1, none⟩) (by go_simp)).trans (by go_simp)
  have yb2_2_33 : w27.cell? ⟨w.heap.size + 2, 2, none⟩ = some (.int .i64 ti) := (hb27.cell (p := ⟨w.heap.size + 2, 2, none⟩) (by go_simp)).trans (by go_simp)
  have lb3_33 : bF3 < w27.heap.size := Nat.lt_of_lt_of_le (by go_simp) hb27.size
  have yb3_0_33 : w27.cell? ⟨bF3, 0, none⟩ = some (.slice V7 (attR gs ts xs t ys x y ti).1.length c7) := (hb27.cell (p := ⟨bF3, 0, none⟩) (by go_simp)).trans (by go_simp)
  have lb4_33 : w9.heap.size < w27.heap.size := Nat.lt_of_lt_of_le (by go_simp) hb27.size
  have yb4_0_33 : w27.cell? ⟨w9.heap.size, 0, none⟩ = some (.slice G9 n n) := (hb27.cell (p := ⟨w9.heap.size, 0, none⟩) (by go_simp)).trans (by go_simp)
  have yb4_1_33 : w27.cell? ⟨w9.heap.size, 1, none⟩ = some (.slice T9 m m) := (hb27.cell (p := ⟨w9.heap.size, 1, none⟩) (by go_simp)).trans (by go_simp)
  have yb4_2_33 : w27.cell? ⟨w9.heap.size, 2, none⟩ = some (.slice A9 q q) := (hb27.cell (p := ⟨w9.heap.size, 2, none⟩) (by go_simp)).trans (by go_simp)
  have yb4_3_33 : w27.cell? ⟨w9.heap.size, 3, none⟩ = some (.int .i64 t) := (hb27.cell (p := ⟨w9.heap.size, 3, none⟩) (by go_simp)).trans (by go_simp)
  have lb5_33 : w10.heap.size < w27.heap.size := Nat.lt_of_lt_of_le (by go_simp) hb27.size
  have yb5_0_33 : w27.cell? ⟨w10.heap.size, 0, none⟩ = some (.slice A10 nb nb) := (hb27.cell (p := ⟨w10.heap.size, 0, none⟩) (by go_simp)).trans (by go_simp)
  have lb6_33 : bF12 < w27.heap.size := Nat.lt_of_lt_of_le (by go_simp) hb27.size
  have yb6_0_33 : w27.cell? ⟨bF12, 0, none⟩ = some (.slice V14 (attR gs ts xs t ys x y ti).1.length c14) := (hb27.cell (p := ⟨bF12, 0, none⟩) (by go_simp)).trans (by go_simp)
  have Mc24_33 := Lib.hid (Marked.below (Marked.below Mc24_32.out bk_ om_) hb27 om_)
  clear hb27
  have kc27 : Below w27.heap.size w27 w27 := bl_refl _
  have o27H := Lib.hid o27
  clear o27
  have p27H := Lib.hid p27
  clear p27
  have z27H := Lib.hid z27
  clear z27
  have ms27H := Lib.hid ms27
  clear ms27
  with_reducible refine wpL_g rfl (fun K hK st28 w28u mv28 => ?_)
  have hu28 := mv28.below
  have fu28 := fd27.mv mv28
  have Hmv28 := Lib.hid mv28
  clear mv28
  have s34 : w27.heap.size ≤ w28u.heap.size := by have := hu28.size; (try simp at this); omega
  have s34H := Lib.hid s34
  have kw_34 : Below w.heap.size w w28u := bl_tr bk_ hu28
  have krV3_34 : Below w8.heap.size w8 w28u := bl_tr bk_ hu28
  have kR26_34 : Below w25.heap.size w25 w28u := bl_tr bk_ hu28
  have kc27_34 : Below w27.heap.size w27 w28u := bl_tr bk_ hu28
  have lb0_34 : w.heap.size < w28u.heap.size := Nat.lt_of_lt_of_le (by go_simp) hu28.size
  have yb0_0_34 : w28u.cell? ⟨w.heap.size, 0, none⟩ = some (.slice G n cg) := (hu28.cell (p := ⟨w.heap.size, 0, none⟩) (by go_simp)).trans (by go_simp)
  have yb0_1_34 : w28u.cell? ⟨w.heap.size, 1, none⟩ = some (.slice T m ct) := (hu28.cell (p := ⟨w.heap.size, 1, none⟩) (by go_simp)).trans (by go_simp)
  have yb0_2_34 : w28u.cell? ⟨w.heap.size, 2, none⟩ = some (.slice A q ca) := (hu28.cell (p := ⟨w.heap.size, 2, none⟩) (by go_simp)).trans (by go_simp)
  have yb0_3_34 : w28u.cell? ⟨w.heap.size, 3, none⟩ = some (.int .i64 t) := (hu28.cell (p := ⟨w.heap.size, 3, none⟩) (by go_simp)).trans (by go_simp)
  have lb1_34 : w.heap.size + 1 < w28u.heap.size := Nat.lt_of_lt_of_le (by go_simp) hu28.size
  have yb1_0_34 : w28u.cell? ⟨w.heap.size + 1, 0, none⟩ = some (.slice C nb cb) := (hu28.cell (p := ⟨w.heap.size + 1, 0, none⟩) (by go_simp)).trans (by go_simp)
  have lb2_34 : w.heap.size + 2 < w28u.heap.size := Nat.lt_of_lt_of_le (by go_simp) hu28.size
  have yb2_0_34 : w28u.cell? ⟨w.heap.size + 2, 0, none⟩ = some (.int .i64 x) := (hu28.cell (p := ⟨w.heap.size + 2, 0, none⟩) (by go_simp)).trans (by go_simp)
  have yb2_1_34 : w28u.cell? ⟨w.heap.size + 2, 1, none⟩ = some (.int .i64 y) := (hu28.cell (p := ⟨w.heap.size + 2, 1, none⟩) (by go_simp)).trans (by go_simp)
  have yb2_2_34 : w28u.cell? ⟨w.heap.size + 2, 2, none⟩ = some (.int .i64 ti) := (hu28.cell (p := ⟨w.heap.size + 2, 2, none⟩) (by go_simp)).trans (by go_simp)
  have lb3_34 : bF3 < w28u.heap.size := Nat.lt_of_lt_of_le (by go_simp) hu28.size
  have yb3_0_34 : w28u.cell? ⟨bF3, 0, none⟩ = some (.slice V7 (attR gs ts xs t ys x y ti).1.length c7) := (hu28.cell (p := ⟨bF3, 0, none⟩) (by go_simp)).trans (by go_simp)
  have lb4_34 : w9.heap.size < w28u.heap.size := Nat.lt_of_lt_of_le (by go_simp) hu28.size
  have yb4_0_34 : w28u.cell? ⟨w9.heap.size, 0, none⟩ = some (.slice G9 n n) := (hu28.cell (p := ⟨w9.heap.size, 0, none⟩) (by go_simp)).trans (by go_simp)
  have yb4_1_34 : w28u.cell? ⟨w9.heap.size, 1, none⟩ = some (.slice T9 m m) := (hu28.cell (p := ⟨w9.heap.size, 1, none⟩) (by go_simp)).trans (by go_simp)
  have yb4_2_34 : w28u.cell? ⟨w9.heap.size, 2, none⟩ = some (.slice A9 q q) := (hu28.cell (p := ⟨w9.heap.size, 2, none⟩) (by go_simp)).trans (by go_simp)
  have yb4_3_34 : w28u.cell? ⟨w9.heap.size, 3, none⟩ = some (.int .i64 t) := (hu28.cell (p := ⟨w9.heap.size, 3, none⟩) (by go_simp)).trans (by go_simp)
  have lb5_34 : w10.heap.size < w28u.heap.size := Nat.lt_of_lt_of_le (by go_simp) hu28.size
  have yb5_0_34 : w28u.cell? ⟨w10.heap.size, 0, none⟩ = some (.slice A10 nb nb) := (hu28.cell (p := ⟨w10.heap.size, 0, none⟩) (by go_simp)).trans (by go_simp)
  have lb6_34 : bF12 < w28u.heap.size := Nat.lt_of_lt_of_le (by go_simp) hu28.size
  have yb6_0_34 : w28u.cell? ⟨bF12, 0, none⟩ = some (.slice V14 (attR gs ts xs t ys x y ti).1.length c14) := (hu28.cell (p := ⟨bF12, 0, none⟩) (by go_simp)).trans (by go_simp)
  have Mc24_34 := Lib.hid (Marked.below (Marked.below Mc24_33.out bk_ om_) hu28 om_)
  go_simp
  refine (toAssembly_any _ _ _ ys _ (hC.below RPl.stable bk_) (by omega)).mono ?_
  rintro e w28 ⟨A28, rfl, o28, hb28⟩
  refine ⟨_, rfl, hb28, hK _ _ _ ?_⟩
  clear hK K
  have fd28 := fu28.below hb28
  have s35 : w28u.heap.size ≤ w28.heap.size := by have := hb28.size; (try simp at this); omega
  have s35H := Lib.hid s35
  have kw_35 : Below w.heap.size w w28 := bl_tr bk_ hb28
  have krV3_35 : Below w8.heap.size w8 w28 := bl_tr bk_ hb28
  have kR26_35 : Below w25.heap.size w25 w28 := bl_tr bk_ hb28
  have kc27_35 : Below w27.heap.size w27 w28 := bl_tr bk_ hb28
  have lb0_35 : w.heap.size < w28.heap.size := Nat.lt_of_lt_of_le (by go_simp) hb28.size
  have yb0_0_35 : w28.cell? ⟨w.heap.size, 0, none⟩ = some (.slice G n cg) := (hb28.cell (p := ⟨w.heap.size, 0, none⟩) (by go_simp)).trans (by go_simp)
  have yb0_1_35 : w28.cell? ⟨w.heap.size, 1, none⟩ = some (.slice T m ct) := (hb28.cell (p := ⟨w.heap.size, 1, none⟩) (by go_simp)).trans (by go_simp)
  have yb0_2_35 : w28.cell? ⟨w.heap.size, 2, none⟩ = some (.slice A q ca) := (hb28.cell (p := ⟨w.heap.size, 2, none⟩) (by go_simp)).trans (by go_simp)
  have yb0_3_35 : w28.cell? ⟨w.heap.size, 3, none⟩ = some (.int .i64 t) := (hb28.cell (p := ⟨w.heap.size, 3, none⟩) (by go_simp)).trans (by go_simp)
  have lb1_35 : w.heap.size + 1 < w28.heap.size := Nat.lt_of_lt_of_le (by go_simp) hb28.size
  have yb1_0_35 : w28.cell? ⟨w.heap.size + 1, 0, none⟩ = some (.slice C nb cb) := (hb28.cell (p := ⟨w.heap.size + 1, 0, none⟩) (by go_simp)).trans (by go_simp)
  have lb2_35 : w.heap.size + 2 < w28.heap.size := Nat.lt_of_lt_of_le (by go_simp) hb28.size
  have yb2_0_35 : w28.cell? ⟨w.heap.size + 2, 0, none⟩ = some (.int .i64 x) := (hb28.cell (p := ⟨w.heap.size + 2, 0, none⟩) (by go_simp)).trans (by go_simp)
  have yb2_1_35 : w28.cell? ⟨w.heap.size + 2, 1, none⟩ = some (.int .i64 y) := (hb28.cell (p := ⟨w.heap.size + 2, 1, none⟩) (by go_simp)).trans (by go_simp)
  have yb2_2_35 : w28.cell? ⟨w.heap.size + 2, 2, none⟩ = some (.int .i64 ti) := (hb28.cell (p := ⟨w.heap.size + 2, 2, none⟩) (by go_simp)).trans (by go_simp)
  have lb3_35 : bF3 < w28.heap.size := Nat.lt_of_lt_of_le (by go_simp) hb28.size
  have yb3_0_35 : w28.cell? ⟨bF3, 0, none⟩ = some (.slice V7 (attR gs ts xs t ys x y ti).1.length c7) := (hb28.cell (p := ⟨bF3, 0, none⟩) (by go_simp)).trans (by go_simp)
  have lb4_35 : w9.heap.size < w28.heap.size := Nat.lt_of_lt_of_le (by go_simp) hb28.size
  have yb4_0_35 : w28.cell? ⟨w9.heap.size, 0, none⟩ = some (.slice G9 n n) := (hb28.cell (p := ⟨w9.heap.size, 0, none⟩) (by go_simp)).trans (by go_simp)
  have yb4_1_35 : w28.cell? ⟨w9.heap.size, 1, none⟩ = some (.slice T9 m m) := (hb28.cell (p := ⟨w9.heap.size, 1, none⟩) (by go_simp)).trans (by go_simp)
  have yb4_2_35 : w28.cell? ⟨w9.heap.size, 2, none⟩ = some (.slice A9 q q) := (hb28.cell (p := ⟨w9.heap.size, 2, none⟩) (by go_simp)).trans (by go_simp)
  have yb4_3_35 : w28.cell? ⟨w9.heap.size, 3, none⟩ = some (.int .i64 t) := (hb28.cell (p := ⟨w9.heap.size, 3, none⟩) (by go_simp)).trans (by go_simp)
  have lb5_35 : w10.heap.size < w28.heap.size := Nat.lt_of_lt_of_le (by go_simp) hb28.size
  have yb5_0_35 : w28.cell? ⟨w10.heap.size, 0, none⟩ = some (.slice A10 nb nb) := (hb28.cell (p := ⟨w10.heap.size, 0, none⟩) (by go_simp)).trans (by go_simp)
  have lb6_35 : bF12 < w28.heap.size := Nat.lt_of_lt_of_le (by go_simp) hb28.size
  have yb6_0_35 : w28.cell? ⟨bF12, 0, none⟩ = some (.slice V14 (attR gs ts xs t ys x y ti).1.length c14) := (hb28.cell (p := ⟨bF12, 0, none⟩) (by go_simp)).trans (by go_simp)
  have Mc24_35 := Lib.hid (Marked.below (Marked.below Mc24_34.out bk_ om_) hb28 om_)
  clear hb28
  have kc28 : Below w28.heap.size w28 w28 := bl_refl _
  have o28H := Lib.hid o28
  clear o28
  with_reducible refine wpL_g rfl (fun K hK st29 w29u mv29 => ?_)
  have hu29 := mv29.below
  have fu29 := fd28.mv mv29
  have Hmv29 := Lib.hid mv29
  clear mv29
  have s36 : w28.heap.size ≤ w29u.heap.size := by have := hu29.size; (try simp at this); omega
  have s36H := Lib.hid s36
  have kw_36 : Below w.heap.size w w29u := bl_tr bk_ hu29
  have krV3_36 : Below w8.heap.size w8 w29u := bl_tr bk_ hu29
  have kR26_36 : Below w25.heap.size w25 w29u := bl_tr bk_ hu29
  have kc27_36 : Below w27.heap.size w27 w29u := bl_tr bk_ hu29
  have kc28_36 : Below w28.heap.size w28 w29u := bl_tr bk_ hu29
  have lb0_36 : w.heap.size < w29u.heap.size := Nat.lt_of_lt_of_le (by go_simp) hu29.size
  have yb0_0_36 : w29u.cell? ⟨w.heap.size, 0, none⟩ = some (.slice G n cg) := (hu29.cell (p := ⟨w.heap.size, 0, none⟩) (by go_simp)).trans (by go_simp)
  have yb0_1_36 : w29u.cell? ⟨w.heap.size, 1, none⟩ = some (.slice T m ct) := (hu29.cell (p := ⟨w.heap.size, 1, none⟩) (by go_simp)).trans (by go_simp)
  have yb0_2_36 : w29u.cell? ⟨w.heap.size, 2, none⟩ = some (.slice A q ca) := (hu29.cell (p := ⟨w.heap.size, 2, none⟩) (by go_simp)).trans (by go_simp)
  have yb0_3_36 : w29u.cell? ⟨w.heap.size, 3, none⟩ = some (.int .i64 t) := (hu29.cell (p := ⟨w.heap.size, 3, none⟩) (by go_simp)).trans (by go_simp)
  have lb1_36 : w.heap.size + 1 < w29u.heap.size := Nat.lt_of_lt_of_le (by go_simp) hu29.size
  have yb1_0_36 : w29u.cell? ⟨w.heap.size + 1, 0, none⟩ = some (.slice C nb cb) := (hu29.cell (p := ⟨w.heap.size + 1, 0, none⟩) (by go_simp)).trans (by go_simp)
  have lb2_36 : w.heap.size + 2 < w29u.heap.size := Nat.lt_of_lt_of_le (by go_simp) hu29.size
  have yb2_0_36 : w29u.cell? ⟨w.heap.size + 2, 0, none⟩ = some (.int .i64 x) := (hu29.cell (p := ⟨w.heap.size + 2, 0, none⟩) (by go_simp)).trans (by go_simp)
  have yb2_1_36 : w29u.cell? ⟨w.heap.size + 2, 1, none⟩ = some (.int .i64 y) := (hu29.cell (p := ⟨w.heap.size + 2, 1, none⟩) (by go_simp)).trans (by go_simp)
  have yb2_2_36 : w29u.cell? ⟨w.heap.size + 2, 2, none⟩ = some (.int .i64 ti) := (hu29.cell (p := ⟨w.heap.size + 2, 2, none⟩) (by go_simp)).trans (by go_simp)
  have lb3_36 : bF3 < w29u.heap.size := Nat.lt_of_lt_of_le (by go_simp) hu29.size
  have yb3_0_36 : w29u.cell? ⟨bF3, 0, none⟩ = some (.slice V7 (attR gs ts xs t ys x y ti).1.length c7) := (hu29.cell (p := ⟨bF3, 0, none⟩) (by go_simp)).trans (by go_simp)
  have lb4_36 : w9.heap.size < w29u.heap.size := Nat.lt_of_lt_of_le (by go_simp) hu29.size
  have yb4_0_36 : w29u.cell? ⟨w9.heap.size, 0, none⟩ = some (.slice G9 n n) := (hu29.cell (p := ⟨w9.heap.size, 0, none⟩) (by go_simp)).trans (by go_simp)
  have yb4_1_36 : w29u.cell? ⟨w9.heap.size, 1, none⟩ = some (.slice T9 m m) := (hu29.cell (p := ⟨w9.heap.size, 1, none⟩) (by go_simp)).trans (by go_simp)
  have yb4_2_36 : w29u.cell? ⟨w9.heap.size, 2, none⟩ = some (.slice A9 q q) := (hu29.cell (p := ⟨w9.heap.size, 2, none⟩) (by go_simp)).trans (by go_simp)
  have yb4_3_36 : w29u.cell? ⟨w9.heap.size, 3, none⟩ = some (.int .i64 t) := (hu29.cell (p := ⟨w9.heap.size, 3, none⟩) (by go_simp)).trans (by go_simp)
  have lb5_36 : w10.heap.size < w29u.heap.size := Nat.lt_of_lt_of_le (by go_simp) hu29.size
  have yb5_0_36 : w29u.cell? ⟨w10.heap.size, 0, none⟩ = some (.slice A10 nb nb) := (hu29.cell (p := ⟨w10.heap.size, 0, none⟩) (by go_simp)).trans (by go_simp)
  have lb6_36 : bF12 < w29u.heap.size := Nat.lt_of_lt_of_le (by go_simp) hu29.size
  have yb6_0_36 : w29u.cell? ⟨bF12, 0, none⟩ = some (.slice V14 (attR gs ts xs t ys x y ti).1.length c14) := (hu29.cell (p := ⟨bF12, 0, none⟩) (by go_simp)).trans (by go_simp)
  have Mc24_36 := Lib.hid (Marked.below (Marked.below Mc24_35.out bk_ om_) hu29 om_)
  go_simp
  refine (toOption_any _ _ _ _).mono ?_
  rintro e w29 ⟨rfl, hb29⟩
  refine ⟨_, rfl, hb29, hK _ _ _ ?_⟩
  clear hK K
  have fd29 := fu29.below hb29
  have s37 : w29u.heap.size ≤ w29.heap.size := by have := hb29.size; (try simp at this); omega
  have s37H := Lib.hid s37
  have kw_37 : Below w.heap.size w w29 := bl_tr bk_ hb29
  have krV3_37 : Below w8.heap.size w8 w29 := bl_tr bk_ hb29
  have kR26_37 : Below w25.heap.size w25 w29 := bl_tr bk_ hb29
  have kc27_37 : Below w27.heap.size w27 w29 := bl_tr bk_ hb29
  have kc28_37 : Below w28.heap.size w28 w29 := bl_tr bk_ hb29
  have lb0_37 : w.heap.size < w29.heap.size := Nat.lt_of_lt_of_le (by go_simp) hb29.size
  have yb0_0_37 : w29.cell? ⟨w.heap.size, 0, none⟩ = some (.slice G n cg) := (hb29.cell (p := ⟨w.heap.size, 0, none⟩) (by go_simp)).trans (by go_simp)
  have yb0_1_37 : w29.cell? ⟨w.heap.size, 1, none⟩ = some (.slice T m ct) := (hb29.cell (p := ⟨w.heap.size, 1, none⟩) (by go_simp)).trans (by go_simp)
  have yb0_2_37 : w29.cell? ⟨w.heap.size, 2, none⟩ = some (.slice A q ca) := (hb29.cell (p := ⟨w.heap.size, 2, none⟩) (by go_simp)).trans (by go_simp)
  have yb0_3_37 : w29.cell? ⟨w.heap.size, 3, none⟩ = some (.int .i64 t) := (hb29.cell (p := ⟨w.heap.size, 3, none⟩) (by go_simp)).trans (by go_simp)
  have lb1_37 : w.heap.size + 1 < w29.heap.size := Nat.lt_of_lt_of_le (by go_simp) hb29.size
  have yb1_0_37 : w29.cell? ⟨w.heap.size + 1, 0, none⟩ = some (.slice C nb cb) := (hb29.cell (p := ⟨w.heap.size + 1, 0, none⟩) (by go_simp)).trans (by go_simp)
  have lb2_37 : w.heap.size + 2 < w29.heap.size := Nat.lt_of_lt_of_le (by go_simp) hb29.size
  have yb2_0_37 : w29.cell? ⟨w.heap.size + 2, 0, none⟩ = some (.int .i64 x) := (hb29.cell (p := ⟨w.heap.size + 2, 0, none⟩) (by go_simp)).trans (by go_simp)
  have yb2_1_37 : w29.cell? ⟨w.heap.size + 2, 1, none⟩ = some (.int .i64 y) := (hb29.cell (p := ⟨w.heap.size + 2, 1, none⟩) (by go_simp)).trans (by go_simp)
  have yb2_2_37 : w29.cell? ⟨w.heap.size + 2, 2, none⟩ = some (.int .i64 ti) := (hb29.cell (p := ⟨w.heap.size + 2, 2, none⟩) (by go_simp)).trans (by go_simp)
  have lb3_37 : bF3 < w29.heap.size := Nat.lt_of_lt_of_le (by go_simp) hb29.size
  have yb3_0_37 : w29.cell? ⟨bF3, 0, none⟩ = some (.slice V7 (attR gs ts xs t ys x y ti).1.length c7) := (hb29.cell (p := ⟨bF3, 0, none⟩) (by go_simp)).trans (by go_simp)
  have lb4_37 : w9.heap.size < w29.heap.size := Nat.lt_of_lt_of_le (by go_simp) hb29.size
  have yb4_0_37 : w29.cell? ⟨w9.heap.size, 0, none⟩ = some (.slice G9 n n) := (hb29.cell (p := ⟨w9.heap.size, 0, none⟩) (by go_simp)).trans (by go_simp)
  have yb4_1_37 : w29.cell? ⟨w9.heap.size, 1, none⟩ = some (.slice T9 m m) := (hb29.cell (p := ⟨w9.heap.size, 1, none⟩) (by go_simp)).trans (by go_simp)
  have yb4_2_37 : w29.cell? ⟨w9.heap.size, 2, none⟩ = some (.slice A9 q q) := (hb29.cell (p := ⟨w9.heap.size, 2, none⟩) (by go_simp)).trans (by go_simp)
  have yb4_3_37 : w29.cell? ⟨w9.heap.size, 3, none⟩ = some (.int .i64 t) := (hb29.cell (p := ⟨w9.heap.size, 3, none⟩) (by go_simp)).trans (by go_simp)
  have lb5_37 : w10.heap.size < w29.heap.size := Nat.lt_of_lt_of_le (by go_simp) hb29.size
  have yb5_0_37 : w29.cell? ⟨w10.heap.size, 0, none⟩ = some (.slice A10 nb nb) := (hb29.cell (p := ⟨w10.heap.size, 0, none⟩) (by go_simp)).trans (by go_simp)
  have lb6_37 : bF12 < w29.heap.size := Nat.lt_of_lt_of_le (by go_simp) hb29.size
  have yb6_0_37 : w29.cell? ⟨bF12, 0, none⟩ = some (.slice V14 (attR gs ts xs t ys x y ti).1.length c14) := (hb29.cell (p := ⟨bF12, 0, none⟩) (by go_simp)).trans (by go_simp)
  have Mc24_37 := Lib.hid (Marked.below (Marked.below Mc24_36.out bk_ om_) hb29 om_)
  clear hb29
  with_reducible refine wpL_g rfl (fun K hK st30 w30u mv30 => ?_)
  have hu30 := mv30.below
  have fu30 := fd29.mv mv30
  have Hmv30 := Lib.hid mv30
  clear mv30
  have s38 : w29.heap.size ≤ w30u.heap.size := by have := hu30.size; (try simp at this); omega
  have s38H := Lib.hid s38
  have kw_38 : Below w.heap.size w w30u := bl_tr bk_ hu30
  have krV3_38 : Below w8.heap.size w8 w30u := bl_tr bk_ hu30
  have kR26_38 : Below w25.heap.size w25 w30u := bl_tr bk_ hu30
  have kc27_38 : Below w27.heap.size w27 w30u := bl_tr bk_ hu30
  have kc28_38 : Below w28.heap.size w28 w30u := bl_tr bk_ hu30
  have lb0_38 : w.heap.size < w30u.heap.size := Nat.lt_of_lt_of_le (by go_simp) hu30.size
  have yb0_0_38 : w30u.cell? ⟨w.heap.size, 0, none⟩ = some (.slice G n cg) := (hu30.cell (p := ⟨w.heap.size, 0, none⟩) (by go_simp)).trans (by go_simp)
  have yb0_1_38 : w30u.cell? ⟨w.heap.size, 1, none⟩ = some (.slice T m ct) := (hu30.cell (p := ⟨w.heap.size, 1, none⟩) (by go_simp)).trans (by go_simp)
  have yb0_2_38 : w30u.cell? ⟨w.heap.size, 2, none⟩ = some (.slice A q ca) := (hu30.cell (p := ⟨w.heap.size, 2, none⟩) (by go_simp)).trans (by go_simp)
  have yb0_3_38 : w30u.cell? ⟨w.heap.size, 3, none⟩ = some (.int .i64 t) := (hu30.cell (p := ⟨w.heap.size, 3, none⟩) (by go_simp)).trans (by go_simp)
  have lb1_38 : w.heap.size + 1 < w30u.heap.size := Nat.lt_of_lt_of_le (by go_simp) hu30.size
  have yb1_0_38 : w30u.cell? ⟨w.heap.size + 1, 0, none⟩ = some (.slice C nb cb) := (hu30.cell (p := ⟨w.heap.size + 1, 0, none⟩) (by go_simp)).trans (by go_simp)
  have lb2_38 : w.heap.size + 2 < w30u.heap.size := Nat.lt_of_lt_of_le (by go_simp) hu30.size
  have yb2_0_38 : w30u.cell? ⟨w.heap.size + 2, 0, none⟩ = some (.int .i64 x) := (hu30.cell (p := ⟨w.heap.size + 2, 0, none⟩) (by go_simp)).trans (by go_simp)
  have yb2_1_38 : w30u.cell? ⟨w.heap.size + 2, 1, none⟩ = some (.int .i64 y) := (hu30.cell (p := ⟨w.heap.size + 2, 1, none⟩) (by go_simp)).trans (by go_simp)
  have yb2_2_38 : w30u.cell? ⟨w.heap.size + 2, 2, none⟩ = some (.int .i64 ti) := (hu30.cell (p := ⟨w.heap.size + 2, 2, none⟩) (by go_simp)).trans (by go_simp)
  have lb3_38 : bF3 < w30u.heap.size := Nat.lt_of_lt_of_le (by go_simp) hu30.size
  have yb3_0_38 : w30u.cell? ⟨bF3, 0, none⟩ = some (.slice V7 (attR gs ts xs t ys x y ti).1.length c7) := (hu30.cell (p := ⟨bF3, 0, none⟩) (by go_simp)).trans (by go_simp)
  have lb4_38 : w9.heap.size < w30u.heap.size := Nat.lt_of_lt_of_le (by go_simp) hu30.size
  have yb4_0_38 : w30u.cell? ⟨w9.heap.size, 0, none⟩ = some (.slice G9 n n) := (hu30.cell (p := ⟨w9.heap.size, 0, none⟩) (by go_simp)).trans (by go_simp)
  have yb4_1_38 : w30u.cell? ⟨w9.heap.size, 1, none⟩ = some (.slice T9 m m) := (hu30.cell (p := ⟨w9.heap.size, 1, none⟩) (by go_simp)).trans (by go_simp)
  have yb4_2_38 : w30u.cell? ⟨w9.heap.size, 2, none⟩ = some (.slice A9 q q) := (hu30.cell (p := ⟨w9.heap.size, 2, none⟩) (by go_simp)).trans (by go_simp)
  have yb4_3_38 : w30u.cell? ⟨w9.heap.size, 3, none⟩ = some (.int .i64 t) := (hu30.cell (p := ⟨w9.heap.size, 3, none⟩) (by go_simp)).trans (by go_simp)
  have lb5_38 : w10.heap.size < w30u.heap.size := Nat.lt_of_lt_of_le (by go_simp) hu30.size
  have yb5_0_38 : w30u.cell? ⟨w10.heap.size, 0, none⟩ = some (.slice A10 nb nb) := (hu30.cell (p := ⟨w10.heap.size, 0, none⟩) (by go_simp)).trans (by go_simp)
  have lb6_38 : bF12 < w30u.heap.size := Nat.lt_of_lt_of_le (by go_simp) hu30.size
  have yb6_0_38 : w30u.cell? ⟨bF12, 0, none⟩ = some (.slice V14 (attR gs ts xs t ys x y ti).1.length c14) := (hu30.cell (p := ⟨bF12, 0, none⟩) (by go_simp)).trans (by go_simp)
  have Mc24_38 := Lib.hid (Marked.below (Marked.below Mc24_37.out bk_ om_) hu30 om_)
  go_simp
  refine (Attach_any _ _ _ _ _ _ _ _ _ _ _ _ gs ts xs ys _ x y ti _ ⟨o27H.out.rd.below RGl.stable bk_, p27H.out.rdTi.below RTi.stable bk_, z27H.out.rd.below RPl.stable bk_, by omega, by omega, by omega, hgk.out, htk.out⟩ ⟨o27H.out.rd.below RGl.stable bk_, p27H.out.rdTi.below RTi.stable bk_, o28H.out.rd.below RPl.stable bk_, by omega, by omega, by omega, hgk.out, htk.out⟩).mono ?_
  rintro e w30 ⟨V30, c30, rfl, v30, hb30⟩
  refine ⟨_, rfl, hb30, hK _ _ _ ?_⟩
  clear hK K
  have fd30 := fu30.below hb30
  have s39 : w30u.heap.size ≤ w30.heap.size := by have := hb30.size; (try simp at this); omega
  have s39H := Lib.hid s39
  have kw_39 : Below w.heap.size w w30 := bl_tr bk_ hb30
  have krV3_39 : Below w8.heap.size w8 w30 := bl_tr bk_ hb30
  have kR26_39 : Below w25.heap.size w25 w30 := bl_tr bk_ hb30
  have kc27_39 : Below w27.heap.size w27 w30 := bl_tr bk_ hb30
  have kc28_39 : Below w28.heap.size w28 w30 := bl_tr bk_ hb30
  have lb0_39 : w.heap.size < w30.heap.size := Nat.lt_of_lt_of_le (by go_simp) hb30.size
  have yb0_0_39 : w30.cell? ⟨w.heap.size, 0, none⟩ = some (.slice G n cg) := (hb30.cell (p := ⟨w.heap.size, 0, none⟩) (by go_simp)).trans (by go_simp)
  have yb0_1_39 : w30.cell? ⟨w.heap.size, 1, none⟩ = some (.slice T m ct) := (hb30.cell (p := ⟨w.heap.size, 1, none⟩) (by go_simp)).trans (by go_simp)
  have yb0_2_39 : w30.cell? ⟨w.heap.size, 2, none⟩ = some (.slice A q ca) := (hb30.cell (p := ⟨w.heap.size, 2, none⟩) (by go_simp)).trans (by go_simp)
  have yb0_3_39 : w30.cell? ⟨w.heap.size, 3, none⟩ = some (.int .i64 t) := (hb30.cell (p := ⟨w.heap.size, 3, none⟩) (by go_simp)).trans (by go_simp)
  have lb1_39 : w.heap.size + 1 < w30.heap.size := Nat.lt_of_lt_of_le (by go_simp) hb30.size
  have yb1_0_39 : w30.cell? ⟨w.heap.size + 1, 0, none⟩ = some (.slice C nb cb) := (hb30.cell (p := ⟨w.heap.size + 1, 0, none⟩) (by go_simp)).trans (by go_simp)
  have lb2_39 : w.heap.size + 2 < w30.heap.size := Nat.lt_of_lt_of_le (by go_simp) hb30.size
  have yb2_0_39 : w30.cell? ⟨w.heap.size + 2, 0, none⟩ = some (.int .i64 x) := (hb30.cell (p := ⟨w.heap.size + 2, 0, none⟩) (by go_simp)).trans (by go_simp)
  have yb2_1_39 : w30.cell? ⟨w.heap.size + 2, 1, none⟩ = some (.int .i64 y) := (hb30.cell (p := ⟨w.heap.size + 2, 1, none⟩) (by go_simp)).trans (by go_simp)
  have yb2_2_39 : w30.cell? ⟨w.heap.size + 2, 2, none⟩ = some (.int .i64 ti) := (hb30.cell (p := ⟨w.heap.size + 2, 2, none⟩) (by go_simp)).trans (by go_simp)
  have lb3_39 : bF3 < w30.heap.size := Nat.lt_of_lt_of_le (by go_simp) hb30.size
  have yb3_0_39 : w30.cell? ⟨bF3, 0, none⟩ = some (.slice V7 (attR gs ts xs t ys x y ti).1.length c7) := (hb30.cell (p := ⟨bF3, 0, none⟩) (by go_simp)).trans (by go_simp)
  have lb4_39 : w9.heap.size < w30.heap.size := Nat.lt_of_lt_of_le (by go_simp) hb30.size
  have yb4_0_39 : w30.cell? ⟨w9.heap.size, 0, none⟩ = some (.slice G9 n n) := (hb30.cell (p := ⟨w9.heap.size, 0, none⟩) (by go_simp)).trans (by go_simp)
  have yb4_1_39 : w30.cell? ⟨w9.heap.size, 1, none⟩ = some (.slice T9 m m) := (hb30.cell (p := ⟨w9.heap.size, 1, none⟩) (by go_simp)).trans (by go_simp)
  have yb4_2_39 : w30.cell? ⟨w9.heap.size, 2, none⟩ = some (.slice A9 q q) := (hb30.cell (p := ⟨w9.heap.size, 2, none⟩) (by go_simp)).trans (by go_simp)
  have yb4_3_39 : w30.cell? ⟨w9.heap.size, 3, none⟩ = some (.int .i64 t) := (hb30.cell (p := ⟨w9.heap.size, 3, none⟩) (by go_simp)).trans (by go_simp)
  have lb5_39 : w10.heap.size < w30.heap.size := Nat.lt_of_lt_of_le (by go_simp) hb30.size
  have yb5_0_39 : w30.cell? ⟨w10.heap.size, 0, none⟩ = some (.slice A10 nb nb) := (hb30.cell (p := ⟨w10.heap.size, 0, none⟩) (by go_simp)).trans (by go_simp)
  have lb6_39 : bF12 < w30.heap.size := Nat.lt_of_lt_of_le (by go_simp) hb30.size
  have yb6_0_39 : w30.cell? ⟨bF12, 0, none⟩ = some (.slice V14 (attR gs ts xs t ys x y ti).1.length c14) := (hb30.cell (p := ⟨bF12, 0, none⟩) (by go_simp)).trans (by go_simp)
  have Mc24_39 := Lib.hid (Marked.below (Marked.below Mc24_38.out bk_ om_) hb30 om_)
  clear hb30
  have kr30 : Below w30.heap.size w30 w30 := bl_refl _
  have hv30 : ∀ g, (.slice V30 (attR gs ts xs t ys x y ti).1.length c30 : Value).ownBlock = some g → g < w30.heap.size := fun g e => (v30.lt g e).2
  have hv30H := Lib.hid hv30
  clear hv30
  have v30H := Lib.hid v30
  clear v30
  repeat (first | ((with_reducible refine wpL_p (fun K hK => ?_)); go_simp; refine hK _ ?_; clear hK K) | ((with_reducible refine wpL_q (fun K hK => ?_)); go_simp; (first | refine hK _ ?_ | (go_bits; refine hK _ ?_) | (go_bits; go_simp; refine hK _ ?_)); clear hK K))
  with_reducible refine wpL_nil (fun bF26 w26f mvF => ?_)
  have huF := mvF.below
  obtain ⟨fl26, fb26⟩ := (fd30.mv mvF).2 _ rfl
  clear mvF
  have s40 : w30.heap.size ≤ w26f.heap.size := by have := huF.size; (try simp at this); omega
  have s40H := Lib.hid s40
  have kw_40 : Below w.heap.size w w26f := bl_tr bk_ huF
  have krV3_40 : Below w8.heap.size w8 w26f := bl_tr bk_ huF
  have kR26_40 : Below w25.heap.size w25 w26f := bl_tr bk_ huF
  have kc27_40 : Below w27.heap.size w27 w26f := bl_tr bk_ huF
  have kc28_40 : Below w28.heap.size w28 w26f := bl_tr bk_ huF
  have kr30_40 : Below w30.heap.size w30 w26f := bl_tr bk_ huF
  have lb0_40 : w.heap.size < w26f.heap.size := Nat.lt_of_lt_of_le (by go_simp) huF.size
  have yb0_0_40 : w26f.cell? ⟨w.heap.size, 0, none⟩ = some (.slice G n cg) := (huF.cell (p := ⟨w.heap.size, 0, none⟩) (by go_simp)).trans (by go_simp)
  have yb0_1_40 : w26f.cell? ⟨w.heap.size, 1, none⟩ = some (.slice T m ct) := (huF.cell (p := ⟨w.heap.size, 1, none⟩) (by go_simp)).trans (by go_simp)
  have yb0_2_40 : w26f.cell? ⟨w.heap.size, 2, none⟩ = some (.slice A q ca) := (huF.cell (p := ⟨w.heap.size, 2, none⟩) (by go_simp)).trans (by go_simp)
  have yb0_3_40 : w26f.cell? ⟨w.heap.size, 3, none⟩ = some (.int .i64 t) := (huF.cell (p := ⟨w.heap.size, 3, none⟩) (by go_simp)).trans (by go_simp)
  have lb1_40 : w.heap.size + 1 < w26f.heap.size := Nat.lt_of_lt_of_le (by go_simp) huF.size
  have yb1_0_40 : w26f.cell? ⟨w.heap.size + 1, 0, none⟩ = some (.slice C nb cb) := (huF.cell (p := ⟨w.heap.size + 1, 0, none⟩) (by go_simp)).trans (by go_simp)
  have lb2_40 : w.heap.size + 2 < w26f.heap.size := Nat.lt_of_lt_of_le (by go_simp) huF.size
  have yb2_0_40 : w26f.cell? ⟨w.heap.size + 2, 0, none⟩ = some (.int .i64 x) := (huF.cell (p := ⟨w.heap.size + 2, 0, none⟩) (by go_simp)).trans (by go_simp)
  have yb2_1_40 : w26f.cell? ⟨w.heap.size + 2, 1, none⟩ = some (.int .i64 y) := (huF.cell (p := ⟨w.heap.size + 2, 1, none⟩) (by go_simp)).trans (by go_simp)
  have yb2_2_40 : w26f.cell? ⟨w.heap.size + 2, 2, none⟩ = some (.int .i64 ti) := (huF.cell (p := ⟨w.heap.size + 2, 2, none⟩) (by go_simp)).trans (by go_simp)
  have lb3_40 : bF3 < w26f.heap.size := Nat.lt_of_lt_of_le (by go_simp) huF.size
  have yb3_0_40 : w26f.cell? ⟨bF3, 0, none⟩ = some (.slice V7 (attR gs ts xs t ys x y ti).1.length c7) := (huF.cell (p := ⟨bF3, 0, none⟩) (by go_simp)).trans (by go_simp)
  have lb4_40 : w9.heap.size < w26f.heap.size := Nat.lt_of_lt_of_le (by go_simp) huF.size
  have yb4_0_40 : w26f.cell? ⟨w9.heap.size, 0, none⟩ = some (.slice G9 n n) := (huF.cell (p := ⟨w9.heap.size, 0, none⟩) (by go_simp)).trans (by go_simp)
  have yb4_1_40 : w26f.cell? ⟨w9.heap.size, 1, none⟩ = some (.slice T9 m m) := (huF.cell (p := ⟨w9.heap.size, 1, none⟩) (by go_simp)).trans (by go_simp)
  have yb4_2_40 : w26f.cell? ⟨w9.heap.size, 2, none⟩ = some (.slice A9 q q) := (huF.cell (p := ⟨w9.heap.size, 2, none⟩) (by go_simp)).trans (by go_simp)
  have yb4_3_40 : w26f.cell? ⟨w9.heap.size, 3, none⟩ = some (.int .i64 t) := (huF.cell (p := ⟨w9.heap.size, 3, none⟩) (by go_simp)).trans (by go_simp)
  have lb5_40 : w10.heap.size < w26f.heap.size := Nat.lt_of_lt_of_le (by go_simp) huF.size
  have yb5_0_40 : w26f.cell? ⟨w10.heap.size, 0, none⟩ = some (.slice A10 nb nb) := (huF.cell (p := ⟨w10.heap.size, 0, none⟩) (by go_simp)).trans (by go_simp)
  have lb6_40 : bF12 < w26f.heap.size := Nat.lt_of_lt_of_le (by go_simp) huF.size
  have yb6_0_40 : w26f.cell? ⟨bF12, 0, none⟩ = some (.slice V14 (attR gs ts xs t ys x y ti).1.length c14) := (huF.cell (p := ⟨bF12, 0, none⟩) (by go_simp)).trans (by go_simp)
  have Mc24_40 := Lib.hid (Marked.below (Marked.below Mc24_39.out bk_ om_) huF om_)
  simp only [World.size_drew] at fl26
  have rF : w26f.rowIs bF26 40 1 (fun i => (#[.slice none 0 0] : Array Value).getD i undef) := ⟨_, fb26, rfl, fun i hi => by simp [hi]⟩
  have yF0 := rF.cell (i := 0) (by decide)
  have kF0 := rF.frozen 0
  have rFH := Lib.hid rF
  clear rF
  have vF30_0 := ownsRow_below v30H.out kr30_40
  have vF30_0H := Lib.hid vF30_0
  clear vF30_0
  simp only [flPtr]
  with_reducible refine wpD_b (fun K hK => ?_)
  go_simp
  refine hK _ _ ?_
  clear hK K
  repeat (first | ((with_reducible refine wpD_p (fun K hK => ?_)); go_simp; refine hK _ ?_; clear hK K) | ((with_reducible refine wpD_q (fun K hK => ?_)); go_simp; (first | refine hK _ ?_ | (go_bits; refine hK _ ?_) | (go_bits; go_simp; refine hK _ ?_)); clear hK K))
  with_reducible refine wpD_nil ?_
  obtain ⟨w31, hV⟩ : ∃ V, V = (w26f.setCell ⟨bF26, 0, none⟩ (.slice V30 (attR gs ts xs t ys x y ti).1.length c30)) := ⟨_, rfl⟩
  rw [← hV]
  have rV := (rFH.out.set 0 (.slice V30 (attR gs ts xs t ys x y ti).1.length c30))
  have hb31 := (kR26_40.setCell (p := ⟨bF26, 0, none⟩) fl26 (.slice V30 (attR gs ts xs t ys x y ti).1.length c30))
  rw [← hV] at rV hb31
  have yg26_0 : w31.cell? ⟨bF26, 0, none⟩ = some (.slice V30 (attR gs ts xs t ys x y ti).1.length c30) := by rw [rV.cell (i := 0) (by decide)]; simp
  have lg26 := rV.lt
  have sF26H := Lib.hid lg26
  have vV30_0 := (ownsRow_setCell_other (a := ⟨bF26, 0, none⟩) vF30_0H.out (own_ne_row vF30_0H.out rFH.out (by decide)) (.slice V30 (attR gs ts xs t ys x y ti).1.length c30))
  rw [← hV] at vV30_0
  have vV30_0H := Lib.hid vV30_0
  clear vV30_0
  clear yF0 kF0 rV
  have s41 : w25.heap.size ≤ w31.heap.size := by have := hb31.size; (try simp at this); omega
  have s41H := Lib.hid s41
  have kw_41 : Below w.heap.size w w31 := bl_tr bk_ hb31
  have krV3_41 : Below w8.heap.size w8 w31 := bl_tr bk_ hb31
  have lb0_41 : w.heap.size < w31.heap.size := Nat.lt_of_lt_of_le (by go_simp) hb31.size
  have yb0_0_41 : w31.cell? ⟨w.heap.size, 0, none⟩ = some (.slice G n cg) := (hb31.cell (p := ⟨w.heap.size, 0, none⟩) (by go_simp)).trans (by go_simp)
  have yb0_1_41 : w31.cell? ⟨w.heap.size, 1, none⟩ = some (.slice T m ct) := (hb31.cell (p := ⟨w.heap.size, 1, none⟩) (by go_simp)).trans (by go_simp)
  have yb0_2_41 : w31.cell? ⟨w.heap.size, 2, none⟩ = some (.slice A q ca) := (hb31.cell (p := ⟨w.heap.size, 2, none⟩) (by go_simp)).trans (by go_simp)
  have yb0_3_41 : w31.cell? ⟨w.heap.size, 3, none⟩ = some (.int .i64 t) := (hb31.cell (p := ⟨w.heap.size, 3, none⟩) (by go_simp)).trans (by go_simp)
  have lb1_41 : w.heap.size + 1 < w31.heap.size := Nat.lt_of_lt_of_le (by go_simp) hb31.size
  have yb1_0_41 : w31.cell? ⟨w.heap.size + 1, 0, none⟩ = some (.slice C nb cb) := (hb31.cell (p := ⟨w.heap.size + 1, 0, none⟩) (by go_simp)).trans (by go_simp)
  have lb2_41 : w.heap.size + 2 < w31.heap.size := Nat.lt_of_lt_of_le (by go_simp) hb31.size
  have yb2_0_41 : w31.cell? ⟨w.heap.size + 2, 0, none⟩ = some (.int .i64 x) := (hb31.cell (p := ⟨w.heap.size + 2, 0, none⟩) (by go_simp)).trans (by go_simp)
  have yb2_1_41 : w31.cell? ⟨w.heap.size + 2, 1, none⟩ = some (.int .i64 y) := (hb31.cell (p := ⟨w.heap.size + 2, 1, none⟩) (by go_simp)).trans (by go_simp)
  have yb2_2_41 : w31.cell? ⟨w.heap.size + 2, 2, none⟩ = some (.int .i64 ti) := (hb31.cell (p := ⟨w.heap.size + 2, 2, none⟩) (by go_simp)).trans (by go_simp)
  have lb3_41 : bF3 < w31.heap.size := Nat.lt_of_lt_of_le (by go_simp) hb31.size
  have yb3_0_41 : w31.cell? ⟨bF3, 0, none⟩ = some (.slice V7 (attR gs ts xs t ys x y ti).1.length c7) := (hb31.cell (p := ⟨bF3, 0, none⟩) (by go_simp)).trans (by go_simp)
  have lb4_41 : w9.heap.size < w31.heap.size := Nat.lt_of_lt_of_le (by go_simp) hb31.size
  have yb4_0_41 : w31.cell? ⟨w9.heap.size, 0, none⟩ = some (.slice G9 n n) := (hb31.cell (p := ⟨w9.heap.size, 0, none⟩) (by go_simp)).trans (by go_simp)
  have yb4_1_41 : w31.cell? ⟨w9.heap.size, 1, none⟩ = some (.slice T9 m m) := (hb31.cell (p := ⟨w9.heap.size, 1, none⟩) (by go_simp)).trans (by go_simp)
  have yb4_2_41 : w31.cell? ⟨w9.heap.size, 2, none⟩ = some (.slice A9 q q) := (hb31.cell (p := ⟨w9.heap.size, 2, none⟩) (by go_simp)).trans (by go_simp)
  have yb4_3_41 : w31.cell? ⟨w9.heap.size, 3, none⟩ = some (.int .i64 t) := (hb31.cell (p := ⟨w9.heap.size, 3, none⟩) (by go_simp)).trans (by go_simp)
  have lb5_41 : w10.heap.size < w31.heap.size := Nat.lt_of_lt_of_le (by go_simp) hb31.size
  have yb5_0_41 : w31.cell? ⟨w10.heap.size, 0, none⟩ = some (.slice A10 nb nb) := (hb31.cell (p := ⟨w10.heap.size, 0, none⟩) (by go_simp)).trans (by go_simp)
  have lb6_41 : bF12 < w31.heap.size := Nat.lt_of_lt_of_le (by go_simp) hb31.size
  have yb6_0_41 : w31.cell? ⟨bF12, 0, none⟩ = some (.slice V14 (attR gs ts xs t ys x y ti).1.length c14) := (hb31.cell (p := ⟨bF12, 0, none⟩) (by go_simp)).trans (by go_simp)
  have Mc24_41 := Lib.hid (Marked.below (Marked.below Mc24_31.out bk_ om_) hb31 om_)
  clear Mc24_31 yb6_0_31 lb6_31 yb5_0_31 lb5_31 yb4_3_31 yb4_2_31 yb4_1_31 yb4_0_31 lb4_31 yb3_0_31 lb3_31 yb2_2_31 yb2_1_31 yb2_0_31 lb2_31 yb1_0_31 lb1_31 yb0_3_31 yb0_2_31 yb0_1_31 yb0_0_31 lb0_31 krV3_31 kw_31 s41
  clear hV hb31
  have krV26 : Below w31.heap.size w31 w31 := bl_refl _
  go_wp2_with fail
  refine (eqAssembly_same _ _ _ _ _ (attR gs ts xs t ys x y ti).1 _ ((rdPl vV30_0H.out).below RPl.stable bk_) ((rdPl vV7_0H.out).below RPl.stable bk_) hRl.out).mono ?_
  rintro e w32 ⟨rfl, hb32⟩
  have s42 : w31.heap.size ≤ w32.heap.size := by have := hb32.size; (try simp at this); omega
  have s42H := Lib.hid s42
  have kw_42 : Below w.heap.size w w32 := bl_tr bk_ hb32
  have krV3_42 : Below w8.heap.size w8 w32 := bl_tr bk_ hb32
  have krV26_42 : Below w31.heap.size w31 w32 := bl_tr bk_ hb32
  have lb0_42 : w.heap.size < w32.heap.size := Nat.lt_of_lt_of_le (by go_simp) hb32.size
  have yb0_0_42 : w32.cell? ⟨w.heap.size, 0, none⟩ = some (.slice G n cg) := (hb32.cell (p := ⟨w.heap.size, 0, none⟩) (by go_simp)).trans (by go_simp)
  have yb0_1_42 : w32.cell? ⟨w.heap.size, 1, none⟩ = some (.slice T m ct) := (hb32.cell (p := ⟨w.heap.size, 1, none⟩) (by go_simp)).trans (by go_simp)
  have yb0_2_42 : w32.cell? ⟨w.heap.size, 2, none⟩ = some (.slice A q ca) := (hb32.cell (p := ⟨w.heap.size, 2, none⟩) (by go_simp)).trans (by go_simp)
  have yb0_3_42 : w32.cell? ⟨w.heap.size, 3, none⟩ = some (.int .i64 t) := (hb32.cell (p := ⟨w.heap.size, 3, none⟩) (by go_simp)).trans (by go_simp)
  have lb1_42 : w.heap.size + 1 < w32.heap.size := Nat.lt_of_lt_of_le (by go_simp) hb32.size
  have yb1_0_42 : w32.cell? ⟨w.heap.size + 1, 0, none⟩ = some (.slice C nb cb) := (hb32.cell (p := ⟨w.heap.size + 1, 0, none⟩) (by go_simp)).trans (by go_simp)
  have lb2_42 : w.heap.size + 2 < w32.heap.size := Nat.lt_of_lt_of_le (by go_simp) hb32.size
  have yb2_0_42 : w32.cell? ⟨w.heap.size + 2, 0, none⟩ = some (.int .i64 x) := (hb32.cell (p := ⟨w.heap.size + 2, 0, none⟩) (by go_simp)).trans (by go_simp)
  have yb2_1_42 : w32.cell? ⟨w.heap.size + 2, 1, none⟩ = some (.int .i64 y) := (hb32.cell (p := ⟨w.heap.size + 2, 1, none⟩) (by go_simp)).trans (by go_simp)
  have yb2_2_42 : w32.cell? ⟨w.heap.size + 2, 2, none⟩ = some (.int .i64 ti) := (hb32.cell (p := ⟨w.heap.size + 2, 2, none⟩) (by go_simp)).trans (by go_simp)
  have lb3_42 : bF3 < w32.heap.size := Nat.lt_of_lt_of_le (by go_simp) hb32.size
  have yb3_0_42 : w32.cell? ⟨bF3, 0, none⟩ = some (.slice V7 (attR gs ts xs t ys x y ti).1.length c7) := (hb32.cell (p := ⟨bF3, 0, none⟩) (by go_simp)).trans (by go_simp)
  have lb4_42 : w9.heap.size < w32.heap.size := Nat.lt_of_lt_of_le (by go_simp) hb32.size
  have yb4_0_42 : w32.cell? ⟨w9.heap.size, 0, none⟩ = some (.slice G9 n n) := (hb32.cell (p := ⟨w9.heap.size, 0, none⟩) (by go_simp)).trans (by go_simp)
  have yb4_1_42 : w32.cell? ⟨w9.heap.size, 1, none⟩ = some (.slice T9 m m) := (hb32.cell (p := ⟨w9.heap.size, 1, none⟩) (by go_simp)).trans (by go_simp)
  have yb4_2_42 : w32.cell? ⟨w9.heap.size, 2, none⟩ = some (.slice A9 q q) := (hb32.cell (p := ⟨w9.heap.size, 2, none⟩) (by go_simp)).trans (by go_simp)
  have yb4_3_42 : w32.cell? ⟨w9.heap.size, 3, none⟩ = some (.int .i64 t) := (hb32.cell (p := ⟨w9.heap.size, 3, none⟩) (by go_simp)).trans (by go_simp)
  have lb5_42 : w10.heap.size < w32.heap.size := Nat.lt_of_lt_of_le (by go_simp) hb32.size
  have yb5_0_42 : w32.cell? ⟨w10.heap.size, 0, none⟩ = some (.slice A10 nb nb) := (hb32.cell (p := ⟨w10.heap.size, 0, none⟩) (by go_simp)).trans (by go_simp)
  have lb6_42 : bF12 < w32.heap.size := Nat.lt_of_lt_of_le (by go_simp) hb32.size
  have yb6_0_42 : w32.cell? ⟨bF12, 0, none⟩ = some (.slice V14 (attR gs ts xs t ys x y ti).1.length c14) := (hb32.cell (p := ⟨bF12, 0, none⟩) (by go_simp)).trans (by go_simp)
  have lb7_42 : bF26 < w32.heap.size := Nat.lt_of_lt_of_le (by go_simp) hb32.size
  have yb7_0_42 : w32.cell? ⟨bF26, 0, none⟩ = some (.slice V30 (attR gs ts xs t ys x y ti).1.length c30) := (hb32.cell (p := ⟨bF26, 0, none⟩) (by go_simp)).trans (by go_simp)
  have Mc24_42 := Lib.hid (Marked.below (Marked.below Mc24_41.out bk_ om_) hb32 om_)
  clear Mc24_41 yg26_0 lg26 yb6_0_41 lb6_41 yb5_0_41 lb5_41 yb4_3_41 yb4_2_41 yb4_1_41 yb4_0_41 lb4_41 yb3_0_41 lb3_41 yb2_2_41 yb2_1_41 yb2_0_41 lb2_41 yb1_0_41 lb1_41 yb0_3_41 yb0_2_41 yb0_1_41 yb0_0_41 lb0_41 krV26 krV3_41 kw_41 s42
  clear hb32
  go_wp2_with fail
  refine (heldAssembly_any _ _ _ 1 _ _ _ (Marked.below Mc24_42.out bk_ om_) om_ (by have := hRl.out; omega)).mono ?_
  rintro e w33 ⟨rfl, hb33⟩
  have s43 : w32.heap.size ≤ w33.heap.size := by have := hb33.size; (try simp at this); omega
  have s43H := Lib.hid s43
  have kw_43 : Below w.heap.size w w33 := bl_tr bk_ hb33
  have krV3_43 : Below w8.heap.size w8 w33 := bl_tr bk_ hb33
  have krV26_43 : Below w31.heap.size w31 w33 := bl_tr bk_ hb33
  have lb0_43 : w.heap.size < w33.heap.size := Nat.lt_of_lt_of_le (by go_simp) hb33.size
  have yb0_0_43 : w33.cell? ⟨w.heap.size, 0, none⟩ = some (.slice G n cg) := (hb33.cell (p := ⟨w.heap.size, 0, none⟩) (by go_simp)).trans (by go_simp)
  have yb0_1_43 : w33.cell? ⟨w.heap.size, 1, none⟩ = some (.slice T m ct) := (hb33.cell (p := ⟨w.heap.size, 1, none⟩) (by go_simp)).trans (by go_simp)
  have yb0_2_43 : w33.cell? ⟨w.heap.size, 2, none⟩ = some (.slice A q ca) := (hb33.cell (p := ⟨w.heap.size, 2, none⟩) (by go_simp)).trans (by go_simp)
  have yb0_3_43 : w33.cell? ⟨w.heap.size, 3, none⟩ = some (.int .i64 t) := (hb33.cell (p := ⟨w.heap.size, 3, none⟩) (by go_simp)).trans (by go_simp)
  have lb1_43 : w.heap.size + 1 < w33.heap.size := Nat.lt_of_lt_of_le (by go_simp) hb33.size
  have yb1_0_43 : w33.cell? ⟨w.heap.size + 1, 0, none⟩ = some (.slice C nb cb) := (hb33.cell (p := ⟨w.heap.size + 1, 0, none⟩) (by go_simp)).trans (by go_simp)
  have lb2_43 : w.heap.size + 2 < w33.heap.size := Nat.lt_of_lt_of_le (by go_simp) hb33.size
  have yb2_0_43 : w33.cell? ⟨w.heap.size + 2, 0, none⟩ = some (.int .i64 x) := (hb33.cell (p := ⟨w.heap.size + 2, 0, none⟩) (by go_simp)).trans (by go_simp)
  have yb2_1_43 : w33.cell? ⟨w.heap.size + 2, 1, none⟩ = some (.int .i64 y) := (hb33.cell (p := ⟨w.heap.size + 2, 1, none⟩) (by go_simp)).trans (by go_simp)
  have yb2_2_43 : w33.cell? ⟨w.heap.size + 2, 2, none⟩ = some (.int .i64 ti) := (hb33.cell (p := ⟨w.heap.size + 2, 2, none⟩) (by go_simp)).trans (by go_simp)
  have lb3_43 : bF3 < w33.heap.size := Nat.lt_of_lt_of_le (by go_simp) hb33.size
  have yb3_0_43 : w33.cell? ⟨bF3, 0, none⟩ = some (.slice V7 (attR gs ts xs t ys x y ti).1.length c7) := (hb33.cell (p := ⟨bF3, 0, none⟩) (by go_simp)).trans (by go_simp)
  have lb4_43 : w9.heap.size < w33.heap.size := Nat.lt_of_lt_of_le (by go_simp) hb33.size
  have yb4_0_43 : w33.cell? ⟨w9.heap.size, 0, none⟩ = some (.slice G9 n n) := (hb33.cell (p := ⟨w9.heap.size, 0, none⟩) (by go_simp)).trans (by go_simp)
  have yb4_1_43 : w33.cell? ⟨w9.heap.size, 1, none⟩ = some (.slice T9 m m) := (hb33.cell (p := ⟨w9.heap.size, 1, none⟩) (by go_simp)).trans (by go_simp)
  have yb4_2_43 : w33.cell? ⟨w9.heap.size, 2, none⟩ = some (.slice A9 q q) := (hb33.cell (p := ⟨w9.heap.size, 2, none⟩) (by go_simp)).trans (by go_simp)
  have yb4_3_43 : w33.cell? ⟨w9.heap.size, 3, none⟩ = some (.int .i64 t) := (hb33.cell (p := ⟨w9.heap.size, 3, none⟩) (by go_simp)).trans (by go_simp)
  have lb5_43 : w10.heap.size < w33.heap.size := Nat.lt_of_lt_of_le (by go_simp) hb33.size
  have yb5_0_43 : w33.cell? ⟨w10.heap.size, 0, none⟩ = some (.slice A10 nb nb) := (hb33.cell (p := ⟨w10.heap.size, 0, none⟩) (by go_simp)).trans (by go_simp)
  have lb6_43 : bF12 < w33.heap.size := Nat.lt_of_lt_of_le (by go_simp) hb33.size
  have yb6_0_43 : w33.cell? ⟨bF12, 0, none⟩ = some (.slice V14 (attR gs ts xs t ys x y ti).1.length c14) := (hb33.cell (p := ⟨bF12, 0, none⟩) (by go_simp)).trans (by go_simp)
  have lb7_43 : bF26 < w33.heap.size := Nat.lt_of_lt_of_le (by go_simp) hb33.size
  have yb7_0_43 : w33.cell? ⟨bF26, 0, none⟩ = some (.slice V30 (attR gs ts xs t ys x y ti).1.length c30) := (hb33.cell (p := ⟨bF26, 0, none⟩) (by go_simp)).trans (by go_simp)
  have Mc24_43 := Lib.hid (Marked.below (Marked.below Mc24_42.out bk_ om_) hb33 om_)
  clear Mc24_42 yb7_0_42 lb7_42 yb6_0_42 lb6_42 yb5_0_42 lb5_42 yb4_3_42 yb4_2_42 yb4_1_42 yb4_0_42 lb4_42 yb3_0_42 lb3_42 yb2_2_42 yb2_1_42 yb2_0_42 lb2_42 yb1_0_42 lb1_42 yb0_3_42 yb0_2_42 yb0_1_42 yb0_0_42 lb0_42 krV26_42 krV3_42 kw_42 s43
  clear hb33
  go_wp2_with fail
  go_ret
  exact ⟨rfl, bk_⟩
end Go.Proofs.YthieodccakphiaaGreat
