import Derived.Test.YtcpbppblahpjbaaGreatW1
import Derived.Test.YtcpbppblahpjbaaGreatBase2
import Derived.Test.YtcpbppblahpjbaaGreatHTo
/- Walks: the harness' counting. -/


namespace Go.Proofs.YtcpbppblahpjbaaGreat
open Go.RowKit
set_option linter.unusedSimpArgs false
set_option linter.unusedVariables false
attribute [local go_sem] BelowBy.cell BelowBy.cell_drew stillUpon givesUpon

theorem szGlue_any (s : ByteArray) (t left : Int) (w : World) (h0 : 0 ≤ left) (h1 : left ≤ 1048576) (hs : s.size ≤ 9223372036854775807) :
    Calls Tryz.prog 149 #[.agg #[.string s, .int .i64 t], .int .i64 left] w (SzRes w left ((s.size : Int) ≤ left)) := by
  by_cases h : (s.size : Int) ≤ left
  · go_enter Tryz.func149, Tryz.ntmps149
    go_wp2
    go_ret
    exact ⟨_, rfl, .inr ⟨by omega, by omega, h⟩, bl_al (bl_refl _) _⟩
  · go_enter Tryz.func149, Tryz.ntmps149
    go_wp2
    go_ret
    exact ⟨_, rfl, .inl rfl, bl_al (bl_refl _) _⟩
theorem szInt64S_any (A : Option Addr) (n c : Nat) (left : Int) (w : World) (h0 : 0 ≤ left) (h1 : left ≤ 1048576) (hs : n ≤ 9223372036854775807) :
    Calls Tryz.prog 78 #[.slice A n c, .int .i64 left] w (SzRes w left ((n : Int) ≤ left)) := by
  by_cases h : (n : Int) ≤ left
  · go_enter Tryz.func78, Tryz.ntmps78
    go_wp2
    go_ret
    exact ⟨_, rfl, .inr ⟨by omega, by omega, h⟩, bl_refl _⟩
  · go_enter Tryz.func78, Tryz.ntmps78
    go_wp2
    go_ret
    exact ⟨_, rfl, .inl rfl, bl_refl _⟩
theorem szPlacedS_any (A : Option Addr) (n c : Nat) (left : Int) (w : World) (h0 : 0 ≤ left) (h1 : left ≤ 1048576) (hs : n ≤ 9223372036854775807) :
    Calls Tryz.prog 59 #[.slice A n c, .int .i64 left] w (SzRes w left ((n : Int) ≤ left)) := by
  by_cases h : (n : Int) ≤ left
  · go_enter Tryz.func59, Tryz.ntmps59
    go_wp2
    go_ret
    exact ⟨_, rfl, .inr ⟨by omega, by omega, h⟩, bl_refl _⟩
  · go_enter Tryz.func59, Tryz.ntmps59
    go_wp2
    go_ret
    exact ⟨_, rfl, .inl rfl, bl_refl _⟩
theorem szAssembly_any (A : Option Addr) (n c : Nat) (left : Int) (w : World) (h0 : 0 ≤ left) (h1 : left ≤ 1048576) (hs : n ≤ 9223372036854775807) :
    Calls Tryz.prog 15 #[.agg #[.slice A n c], .int .i64 left] w (SzRes w left ((n : Int) ≤ left)) := by
  go_enter Tryz.func15, Tryz.ntmps15
  go_wp2_with (go_at_call 59; refine (szPlacedS_any _ _ _ _ _ h0 h1 hs).mono ?_; rintro e w1 ⟨r, rfl, (rfl | ⟨hr0, hr1, hr2⟩), hb1⟩)
  · go_ret
    exact ⟨_, rfl, .inl rfl, bl_tr (bl_al (bl_refl _) _) hb1⟩
  · go_wp2
    go_ret
    exact ⟨_, rfl, .inr ⟨hr0, hr1, hr2⟩, bl_tr (bl_al (bl_refl _) _) hb1⟩
theorem szTile_any (s : ByteArray) (A : Option Addr) (n c : Nat) (left : Int) (w : World) (h0 : 0 ≤ left) (h1 : left ≤ 1048576) (hs : s.size ≤ 9223372036854775807) (hn : n ≤ 9223372036854775807) :
    Calls Tryz.prog 150 #[.agg #[.string s, .slice A n c], .int .i64 left] w (SzRes w left ((s.size : Int) ≤ left ∧ (n : Int) ≤ left)) := by
  by_cases h : (s.size : Int) ≤ left
  · go_enter Tryz.func150, Tryz.ntmps150
    go_wp2_with (go_at_call 78; refine (szInt64S_any _ _ _ _ _ (by omega) (by omega) hn).mono ?_; rintro e w1 ⟨r, rfl, (rfl | ⟨hr0, hr1, hr2⟩), hb1⟩)
    · go_ret
      exact ⟨_, rfl, .inl rfl, bl_tr (bl_al (bl_refl _) _) hb1⟩
    · go_wp2
      go_ret
      exact ⟨_, rfl, .inr ⟨hr0, by omega, h, by omega⟩, bl_tr (bl_al (bl_refl _) _) hb1⟩
  · go_enter Tryz.func150, Tryz.ntmps150
    go_wp2
    go_ret
    exact ⟨_, rfl, .inl rfl, bl_al (bl_refl _) _⟩

set_option maxHeartbeats 1000000 in
theorem szGlueS_any (A : Option Addr) (n c : Nat) (xs : List Gl) (left : Int) (w : World) (h : RdSl 2 RGl w A n xs) (h0 : 0 ≤ left) (h1 : left ≤ 1048576) (hn : n ≤ 9223372036854775807) (hx : ∀ e ∈ xs, e.name.size ≤ 9223372036854775807) :
    Calls Tryz.prog 95 #[.slice A n c, .int .i64 left] w (SzRes w left ((n : Int) ≤ left ∧ ∀ e ∈ xs, (e.name.size : Int) ≤ left)) := by
  by_cases hle : (n : Int) ≤ left
  · go_enter Tryz.func95, Tryz.ntmps95
    go_wp2
    go_loopg [1, 5] n (fun g l i wr => ∃ (k : Nat) (L : Int), k + g = n ∧ i = .int .i64 k ∧ l = .int .i64 L ∧ 0 ≤ L ∧ L ≤ left ∧ (∀ j e, j < k → xs[j]? = some e → (e.name.size : Int) ≤ left) ∧ Below w.heap.size w wr)
    case atStart => exact ⟨0, _, by omega, rfl, rfl, by omega, by omega, fun j e hj => by omega, Below.refl _ _⟩
    case round =>
      obtain ⟨k, L, hk, rfl, rfl, hL0, hL1, hok, hbw⟩ := hrel
      have r1 := h.below RGl.stable hbw
      by_cases hlt : k < n
      · obtain ⟨b, o, rfl, hb, hc⟩ := r1.ptr (by omega)
        obtain ⟨e, he⟩ := h.get hlt
        have HE := Lib.hid he
        obtain ⟨c1, c1b⟩ := hc k e he
        clear hc he r1
        go_wp2_with (go_at_call 149; refine (szGlue_any _ _ _ _ hL0 (by omega) (hx _ (List.mem_of_getElem? HE.out))).mono ?_; rintro e' w1 ⟨r, rfl, (rfl | ⟨hr0, hr1, hr2⟩), hb1⟩)
        · go_ret
          exact ⟨_, rfl, .inl rfl, bl_tr hbw hb1⟩
        · go_wp2
          go_roundg (n - (k + 1))
          case measure => omega
          case rel => exact ⟨k + 1, _, by omega, by go_num, rfl, by omega, by omega, fun j e' hj he' => (by
            rcases Nat.lt_succ_iff_lt_or_eq.1 hj with hj | rfl
            · exact hok j e' hj he'
            · obtain rfl := Option.some.inj (HE.out.symm.trans he'); omega), bl_tr hbw hb1⟩
      · obtain rfl : k = n := by omega
        go_wp2
        go_ret
        exact ⟨_, rfl, .inr ⟨hL0, hL1, hle, fun e he => by
          obtain ⟨j, hj, rfl⟩ := List.mem_iff_getElem.1 he
          exact hok j _ (by have := h.len; omega) (List.getElem?_eq_getElem hj)⟩, hbw⟩
  · go_enter Tryz.func95, Tryz.ntmps95
    go_wp2
    go_ret
    exact ⟨_, rfl, .inl rfl, bl_refl _⟩

set_option maxHeartbeats 1000000 in
theorem szTileS_any (A : Option Addr) (n c : Nat) (xs : List Ti) (left : Int) (w : World) (h : RdSl 2 RTi w A n xs) (h0 : 0 ≤ left) (h1 : left ≤ 1048576) (hn : n ≤ 9223372036854775807) (hx : ∀ e ∈ xs, e.name.size ≤ 9223372036854775807 ∧ e.sides.length ≤ 9223372036854775807) :
    Calls Tryz.prog 96 #[.slice A n c, .int .i64 left] w (SzRes w left ((n : Int) ≤ left ∧ ∀ e ∈ xs, (e.name.size : Int) ≤ left ∧ (e.sides.length : Int) ≤ left)) := by
  by_cases hle : (n : Int) ≤ left
  · go_enter Tryz.func96, Tryz.ntmps96
    go_wp2
    go_loopg [1, 5] n (fun g l i wr => ∃ (k : Nat) (L : Int), k + g = n ∧ i = .int .i64 k ∧ l = .int .i64 L ∧ 0 ≤ L ∧ L ≤ left ∧ (∀ j e, j < k → xs[j]? = some e → (e.name.size : Int) ≤ left ∧ (e.sides.length : Int) ≤ left) ∧ Below w.heap.size w wr)
    case atStart => exact ⟨0, _, by omega, rfl, rfl, by omega, by omega, fun j e hj => by omega, Below.refl _ _⟩
    case round =>
      obtain ⟨k, L, hk, rfl, rfl, hL0, hL1, hok, hbw⟩ := hrel
      have r1 := h.below RTi.stable hbw
      by_cases hlt : k < n
      · obtain ⟨b, o, rfl, hb, hc⟩ := r1.ptr (by omega)
        obtain ⟨e, he⟩ := h.get hlt
        have HE := Lib.hid he
        obtain ⟨c1, A1, n1, d1, c1b, hs1⟩ := hc k e he
        have HL := Lib.hid hs1.len
        have hn1 : n1 ≤ 9223372036854775807 := by rw [← hs1.len]; exact (hx e (List.mem_of_getElem? he)).2
        clear hs1
        clear hc he r1
        go_wp2_with (go_at_call 150; refine (szTile_any _ _ _ _ _ _ hL0 (by omega) (hx _ (List.mem_of_getElem? HE.out)).1 hn1).mono ?_; rintro e' w1 ⟨r, rfl, (rfl | ⟨hr0, hr1, hr2⟩), hb1⟩)
        · go_ret
          exact ⟨_, rfl, .inl rfl, bl_tr hbw hb1⟩
        · go_wp2
          go_roundg (n - (k + 1))
          case measure => omega
          case rel => exact ⟨k + 1, _, by omega, by go_num, rfl, by omega, by omega, fun j e' hj he' => (by
            rcases Nat.lt_succ_iff_lt_or_eq.1 hj with hj | rfl
            · exact hok j e' hj he'
            · obtain rfl := Option.some.inj (HE.out.symm.trans he'); rw [HL.out]; omega), bl_tr hbw hb1⟩
      · obtain rfl : k = n := by omega
        go_wp2
        go_ret
        exact ⟨_, rfl, .inr ⟨hL0, hL1, hle, fun e he => by
          obtain ⟨j, hj, rfl⟩ := List.mem_iff_getElem.1 he
          exact hok j _ (by have := h.len; omega) (List.getElem?_eq_getElem hj)⟩, hbw⟩
  · go_enter Tryz.func96, Tryz.ntmps96
    go_wp2
    go_ret
    exact ⟨_, rfl, .inl rfl, bl_refl _⟩

theorem szTileSet_any (A B : Option Addr) (n c m d : Nat) (gs : List Gl) (ts : List Ti) (left : Int) (w : World) (h : RdSl 2 RGl w A n gs) (k : RdSl 2 RTi w B m ts) (h0 : 0 ≤ left) (h1 : left ≤ 1048576) (hn : n ≤ 9223372036854775807) (hm : m ≤ 9223372036854775807)
    (hx : ∀ e ∈ gs, e.name.size ≤ 9223372036854775807) (hy : ∀ e ∈ ts, e.name.size ≤ 9223372036854775807 ∧ e.sides.length ≤ 9223372036854775807) :
    Calls Tryz.prog 49 #[.agg #[.slice A n c, .slice B m d], .int .i64 left] w (SzRes w left (((n : Int) ≤ left ∧ ∀ e ∈ gs, (e.name.size : Int) ≤ left) ∧ ((m : Int) ≤ left ∧ ∀ e ∈ ts, (e.name.size : Int) ≤ left ∧ (e.sides.length : Int) ≤ left))) := by
  have hb0 : ∀ o1, Below w.heap.size w (w.alloc o1) := fun o1 => bl_al (bl_refl _) _
  go_enter Tryz.func49, Tryz.ntmps49
  go_wp2_with (go_at_call 95; refine (szGlueS_any _ _ _ gs _ _ (h.below RGl.stable (hb0 _)) h0 h1 hn hx).mono ?_; rintro e w1 ⟨r, rfl, (rfl | ⟨hr0, hr1, hr2⟩), hb1⟩; all_goals (obtain ⟨cb1, fb1, sb1, tb1⟩ := bcell hb1; have bb1 := sb1 w.heap.size (by go_simp)))
  · go_ret
    exact ⟨_, rfl, .inl rfl, bl_tr (bl_al (bl_refl _) _) hb1⟩
  · have HR := Lib.hid hr2
    clear hr2
    go_wp2_with (go_at_call 96; refine (szTileS_any _ _ _ ts _ _ (k.below RTi.stable (bl_tr (hb0 _) hb1)) hr0 (by omega) hm hy).mono ?_; rintro e w2 ⟨r2, rfl, (rfl | ⟨hq0, hq1, hq2⟩), hb2⟩)
    · go_ret
      exact ⟨_, rfl, .inl rfl, bl_tr (bl_tr (bl_al (bl_refl _) _) hb1) hb2⟩
    · have HQ := Lib.hid hq2
      clear hq2
      go_wp2
      go_ret
      exact ⟨_, rfl, .inr ⟨hq0, by omega, HR.out, by have := HQ.out.1; omega, fun e he => by have := HQ.out.2 e he; omega⟩, bl_tr (bl_tr (bl_al (bl_refl _) _) hb1) hb2⟩
end Go.Proofs.YtcpbppblahpjbaaGreat
/- Walks: the harness' comparisons, where both sides read as the same list. -/


namespace Go.Proofs.YtcpbppblahpjbaaGreat
open Go.RowKit
set_option linter.unusedSimpArgs false
set_option linter.unusedVariables false
attribute [local go_sem] BelowBy.cell BelowBy.cell_drew stillUpon givesUpon

theorem eqGlue_same (s : ByteArray) (t : Int) (w : World) :
    Calls Tryz.prog 164 #[.agg #[.string s, .int .i64 t], .agg #[.string s, .int .i64 t]] w fun e w' => e = .returned (.bool true) ∧ Below w.heap.size w w' := by
  go_enter Tryz.func164, Tryz.ntmps164
  go_wp2
  go_ret
  exact ⟨rfl, bl_al (bl_al (bl_refl _) _) _⟩
theorem eqPoint_same (x y : Int) (w : World) :
    Calls Tryz.prog 177 #[.agg #[.int .i64 x, .int .i64 y], .agg #[.int .i64 x, .int .i64 y]] w fun e w' => e = .returned (.bool true) ∧ Below w.heap.size w w' := by
  go_enter Tryz.func177, Tryz.ntmps177
  go_wp2
  go_ret
  exact ⟨rfl, bl_al (bl_al (bl_refl _) _) _⟩
theorem eqPlaced_same (x y t : Int) (w : World) :
    Calls Tryz.prog 123 #[.agg #[.int .i64 x, .int .i64 y, .int .i64 t], .agg #[.int .i64 x, .int .i64 y, .int .i64 t]] w fun e w' => e = .returned (.bool true) ∧ Below w.heap.size w w' := by
  
  go_enter Tryz.func123, Tryz.ntmps123
  go_wp2_with (go_at_call 177; refine (eqPoint_same _ _ _).mono ?_; rintro e w1 ⟨rfl, hb1⟩; obtain ⟨chb1, fhb1, shb1, thb1⟩ := bcell hb1; (try have bhb10 := shb1 (w.heap.size) (by go_simp)); (try have bhb11 := shb1 (w.heap.size + 1) (by go_simp)))
  go_ret
  refine ⟨rfl, ?_⟩
  repeat (first | with_reducible exact bl_refl _ | with_reducible assumption | with_reducible refine bl_al ?_ _ | with_reducible refine bl_dr ?_ | with_reducible refine bl_tr ?_ (by assumption) | with_reducible refine bl_set ?_ ?_ _ | with_reducible exact Nat.le_refl _ | omega | (simp only [World.size_alloc, World.size_setCell, World.size_drew] at *; omega) | (dsimp only; omega) | (simp; done) | (simp; omega))

set_option maxHeartbeats 1000000 in
theorem eqInt64S_same (A B : Option Addr) (n c d : Nat) (xs : List Int) (w : World) (h1 : RdSl 1 RInt w A n xs) (h2 : RdSl 1 RInt w B n xs) (hn : n ≤ 1073741824) :
    Calls Tryz.prog 26 #[.slice A n c, .slice B n d] w fun e w' => e = .returned (.bool true) ∧ Below w.heap.size w w' := by
  
  go_enter Tryz.func26, Tryz.ntmps26
  go_wp2
  go_loopg [5] n (fun g i wr => ∃ k : Nat, k + g = n ∧ i = .int .i64 k ∧ Below w.heap.size w wr)
  case atStart => exact ⟨0, by omega, rfl, Below.refl _ _⟩
  case round =>
    obtain ⟨k, hk, rfl, hbw⟩ := hrel
    have r1 := h1.below RInt.stable hbw
    have r2 := h2.below RInt.stable hbw
    by_cases hlt : k < n
    · obtain ⟨b, o, rfl, hb, hc⟩ := r1.ptr (by omega)
      obtain ⟨b2, o2, rfl, hb2, hc2⟩ := r2.ptr (by omega)
      obtain ⟨e, he⟩ := h1.get hlt
      have c1 := hc k e he
      have c2 := hc2 k e he
      unfold RInt at c1 c2
      simp only [Nat.mul_one] at c1 c2
      clear hc hc2 he r1 r2
      go_wp2
      refine wp_region_ord [(0, .q), (1, .q), (2, .q), (3, .q), (4, .q), (5, .q), (6, .q), (7, .q), (8, .q)] (by kernel_rfl) (by kernel_rfl) ?_
      simp only [pick, List.filterMap_cons, List.filterMap_nil, List.getElem?_toArray, List.getElem?_cons_zero, List.getElem?_cons_succ, Option.map_some]
      repeat (first
        | ((with_reducible refine wpD_p (fun K hK => ?_)); go_simp; refine hK _ ?_; clear hK K)
        | ((with_reducible refine wpD_q (fun K hK => ?_)); go_simp; (first | refine hK _ ?_ | (go_bits; refine hK _ ?_) | (go_bits; go_simp; refine hK _ ?_)); clear hK K)
        | ((with_reducible refine wpD_g (fun K hK => ?_)); go_simp; refine hK _ _ ?_; clear hK K)
        | ((with_reducible refine wpD_g (fun K hK => ?_)); go_simp; refine ⟨Grew.of_alloc _, hK _ _ ?_⟩; clear hK K))
      with_reducible refine wpD_nil ?_
      go_wp2
      go_roundg (n - (k + 1))
      case measure => omega
      case rel => exact ⟨k + 1, by omega, by go_num, (by repeat (first | with_reducible exact bl_refl _ | with_reducible assumption | with_reducible refine bl_al ?_ _ | with_reducible refine bl_dr ?_ | with_reducible refine bl_tr ?_ (by assumption) | with_reducible refine bl_set ?_ ?_ _ | with_reducible exact Nat.le_refl _ | omega | (simp only [World.size_alloc, World.size_setCell, World.size_drew] at *; omega) | (dsimp only; omega) | (simp; done) | (simp; omega)))⟩
    · obtain rfl : k = n := by omega
      go_wp2
      go_ret
      exact ⟨rfl, hbw⟩

set_option maxHeartbeats 1000000 in
theorem eqGlueS_same (A B : Option Addr) (n c d : Nat) (xs : List Gl) (w : World) (h1 : RdSl 2 RGl w A n xs) (h2 : RdSl 2 RGl w B n xs) (hn : n ≤ 1073741824) :
    Calls Tryz.prog 107 #[.slice A n c, .slice B n d] w fun e w' => e = .returned (.bool true) ∧ Below w.heap.size w w' := by
  
  go_enter Tryz.func107, Tryz.ntmps107
  go_wp2
  go_loopg [5] n (fun g i wr => ∃ k : Nat, k + g = n ∧ i = .int .i64 k ∧ Below w.heap.size w wr)
  case atStart => exact ⟨0, by omega, rfl, Below.refl _ _⟩
  case round =>
    obtain ⟨k, hk, rfl, hbw⟩ := hrel
    have r1 := h1.below RGl.stable hbw
    have r2 := h2.below RGl.stable hbw
    by_cases hlt : k < n
    · obtain ⟨b, o, rfl, hb, hc⟩ := r1.ptr (by omega)
      obtain ⟨b2, o2, rfl, hb2, hc2⟩ := r2.ptr (by omega)
      obtain ⟨e, he⟩ := h1.get hlt
      obtain ⟨c1, c1b⟩ := hc k e he
      obtain ⟨c2, c2b⟩ := hc2 k e he
      clear hc hc2 he r1 r2
      go_wp2
      refine wp_region_ord [(0, .q), (1, .q), (2, .q), (3, .q), (4, .q), (5, .q), (6, .q), (7, .q), (8, .g), (9, .q)] (by kernel_rfl) (by kernel_rfl) ?_
      simp only [pick, List.filterMap_cons, List.filterMap_nil, List.getElem?_toArray, List.getElem?_cons_zero, List.getElem?_cons_succ, Option.map_some]
      repeat (first
        | ((with_reducible refine wpD_p (fun K hK => ?_)); go_simp; refine hK _ ?_; clear hK K)
        | ((with_reducible refine wpD_q (fun K hK => ?_)); go_simp; (first | refine hK _ ?_ | (go_bits; refine hK _ ?_) | (go_bits; go_simp; refine hK _ ?_)); clear hK K)
        | ((with_reducible refine wpD_g (fun K hK => ?_)); go_simp; refine hK _ _ ?_; clear hK K)
        | ((with_reducible refine wpD_g (fun K hK => ?_)); go_simp; refine ⟨Grew.of_alloc _, hK _ _ ?_⟩; clear hK K)
        | ((with_reducible refine wpD_g (fun K hK => ?_)); go_simp; go_at_call 164; refine (eqGlue_same _ _ _).mono ?_; rintro e w1 ⟨rfl, hb1⟩; refine ⟨_, rfl, hb1, hK _ _ ?_⟩; clear hK K; obtain ⟨chb1, fhb1, shb1, thb1⟩ := bcell hb1; (try have bhb10 := shb1 (b) (by go_simp)); (try have bhb11 := shb1 (b2) (by go_simp))))
      with_reducible refine wpD_nil ?_
      go_wp2
      go_roundg (n - (k + 1))
      case measure => omega
      case rel => exact ⟨k + 1, by omega, by go_num, (by repeat (first | with_reducible exact bl_refl _ | with_reducible assumption | with_reducible refine bl_al ?_ _ | with_reducible refine bl_dr ?_ | with_reducible refine bl_tr ?_ (by assumption) | with_reducible refine bl_set ?_ ?_ _ | with_reducible exact Nat.le_refl _ | omega | (simp only [World.size_alloc, World.size_setCell, World.size_drew] at *; omega) | (dsimp only; omega) | (simp; done) | (simp; omega)))⟩
    · obtain rfl : k = n := by omega
      go_wp2
      go_ret
      exact ⟨rfl, hbw⟩

set_option maxHeartbeats 1000000 in
theorem eqPlacedS_same (A B : Option Addr) (n c d : Nat) (xs : List Pl) (w : World) (h1 : RdSl 3 RPl w A n xs) (h2 : RdSl 3 RPl w B n xs) (hn : n ≤ 1073741824) :
    Calls Tryz.prog 69 #[.slice A n c, .slice B n d] w fun e w' => e = .returned (.bool true) ∧ Below w.heap.size w w' := by
  
  go_enter Tryz.func69, Tryz.ntmps69
  go_wp2
  go_loopg [5] n (fun g i wr => ∃ k : Nat, k + g = n ∧ i = .int .i64 k ∧ Below w.heap.size w wr)
  case atStart => exact ⟨0, by omega, rfl, Below.refl _ _⟩
  case round =>
    obtain ⟨k, hk, rfl, hbw⟩ := hrel
    have r1 := h1.below RPl.stable hbw
    have r2 := h2.below RPl.stable hbw
    by_cases hlt : k < n
    · obtain ⟨b, o, rfl, hb, hc⟩ := r1.ptr (by omega)
      obtain ⟨b2, o2, rfl, hb2, hc2⟩ := r2.ptr (by omega)
      obtain ⟨e, he⟩ := h1.get hlt
      obtain ⟨c1, c1b, c1c⟩ := hc k e he
      obtain ⟨c2, c2b, c2c⟩ := hc2 k e he
      clear hc hc2 he r1 r2
      go_wp2
      refine wp_region_ord [(0, .q), (1, .q), (2, .q), (3, .q), (4, .q), (5, .q), (6, .q), (7, .q), (8, .g), (9, .q)] (by kernel_rfl) (by kernel_rfl) ?_
      simp only [pick, List.filterMap_cons, List.filterMap_nil, List.getElem?_toArray, List.getElem?_cons_zero, List.getElem?_cons_succ, Option.map_some]
      repeat (first
        | ((with_reducible refine wpD_p (fun K hK => ?_)); go_simp; refine hK _ ?_; clear hK K)
        | ((with_reducible refine wpD_q (fun K hK => ?_)); go_simp; (first | refine hK _ ?_ | (go_bits; refine hK _ ?_) | (go_bits; go_simp; refine hK _ ?_)); clear hK K)
        | ((with_reducible refine wpD_g (fun K hK => ?_)); go_simp; refine hK _ _ ?_; clear hK K)
        | ((with_reducible refine wpD_g (fun K hK => ?_)); go_simp; refine ⟨Grew.of_alloc _, hK _ _ ?_⟩; clear hK K)
        | ((with_reducible refine wpD_g (fun K hK => ?_)); go_simp; go_at_call 123; refine (eqPlaced_same _ _ _ _).mono ?_; rintro e w1 ⟨rfl, hb1⟩; refine ⟨_, rfl, hb1, hK _ _ ?_⟩; clear hK K; obtain ⟨chb1, fhb1, shb1, thb1⟩ := bcell hb1; (try have bhb10 := shb1 (b) (by go_simp)); (try have bhb11 := shb1 (b2) (by go_simp))))
      with_reducible refine wpD_nil ?_
      go_wp2
      go_roundg (n - (k + 1))
      case measure => omega
      case rel => exact ⟨k + 1, by omega, by go_num, (by repeat (first | with_reducible exact bl_refl _ | with_reducible assumption | with_reducible refine bl_al ?_ _ | with_reducible refine bl_dr ?_ | with_reducible refine bl_tr ?_ (by assumption) | with_reducible refine bl_set ?_ ?_ _ | with_reducible exact Nat.le_refl _ | omega | (simp only [World.size_alloc, World.size_setCell, World.size_drew] at *; omega) | (dsimp only; omega) | (simp; done) | (simp; omega)))⟩
    · obtain rfl : k = n := by omega
      go_wp2
      go_ret
      exact ⟨rfl, hbw⟩

set_option maxHeartbeats 1000000 in
theorem eqTile_same (s : ByteArray) (A B : Option Addr) (n c d : Nat) (xs : List Int) (w : World) (h1 : RdSl 1 RInt w A n xs) (h2 : RdSl 1 RInt w B n xs) (hn : n ≤ 1073741824) :
    Calls Tryz.prog 165 #[.agg #[.string s, .slice A n c], .agg #[.string s, .slice B n d]] w fun e w' => e = .returned (.bool true) ∧ Below w.heap.size w w' := by
  have hb0 : ∀ o1 o2, Below w.heap.size w ((w.alloc o1).alloc o2) := fun o1 o2 => bl_al (bl_al (bl_refl _) _) _
  
  go_enter Tryz.func165, Tryz.ntmps165
  go_wp2_with (go_at_call 26; refine (eqInt64S_same _ _ _ _ _ xs _ (h1.below RInt.stable (hb0 _ _)) (h2.below RInt.stable (hb0 _ _)) hn).mono ?_; rintro e w1 ⟨rfl, hb1⟩; obtain ⟨chb1, fhb1, shb1, thb1⟩ := bcell hb1; (try have bhb10 := shb1 (w.heap.size) (by go_simp)); (try have bhb11 := shb1 (w.heap.size + 1) (by go_simp)))
  go_ret
  refine ⟨rfl, ?_⟩
  repeat (first | with_reducible exact bl_refl _ | with_reducible assumption | with_reducible refine bl_al ?_ _ | with_reducible refine bl_dr ?_ | with_reducible refine bl_tr ?_ (by assumption) | with_reducible refine bl_set ?_ ?_ _ | with_reducible exact Nat.le_refl _ | omega | (simp only [World.size_alloc, World.size_setCell, World.size_drew] at *; omega) | (dsimp only; omega) | (simp; done) | (simp; omega))

set_option maxHeartbeats 1000000 in
theorem eqTileS_same (A B : Option Addr) (n c d : Nat) (xs : List Ti) (w : World) (h1 : RdSl 2 RTi w A n xs) (h2 : RdSl 2 RTi w B n xs) (hn : n ≤ 1073741824) (hx : ∀ e ∈ xs, e.sides.length ≤ 1073741824) :
    Calls Tryz.prog 108 #[.slice A n c, .slice B n d] w fun e w' => e = .returned (.bool true) ∧ Below w.heap.size w w' := by
  
  go_enter Tryz.func108, Tryz.ntmps108
  go_wp2
  go_loopg [5] n (fun g i wr => ∃ k : Nat, k + g = n ∧ i = .int .i64 k ∧ Below w.heap.size w wr)
  case atStart => exact ⟨0, by omega, rfl, Below.refl _ _⟩
  case round =>
    obtain ⟨k, hk, rfl, hbw⟩ := hrel
    have r1 := h1.below RTi.stable hbw
    have r2 := h2.below RTi.stable hbw
    by_cases hlt : k < n
    · obtain ⟨b, o, rfl, hb, hc⟩ := r1.ptr (by omega)
      obtain ⟨b2, o2, rfl, hb2, hc2⟩ := r2.ptr (by omega)
      obtain ⟨e, he⟩ := h1.get hlt
      obtain ⟨c1, A1, n1, d1, c1b, hs1⟩ := hc k e he
      obtain ⟨c2, A2, n2, d2, c2b, hs2⟩ := hc2 k e he
      obtain rfl : n1 = n2 := hs1.len.symm.trans hs2.len
      have hm : n1 ≤ 1073741824 := by rw [← hs1.len]; exact hx e (List.mem_of_getElem? he)
      have hs1 := hs1.below RInt.stable (bl_dr (bl_refl _))
      have hs2 := hs2.below RInt.stable (bl_dr (bl_refl _))
      clear hc hc2 he r1 r2
      go_wp2
      refine wp_region_ord [(0, .q), (1, .q), (2, .q), (3, .q), (4, .q), (5, .q), (6, .q), (7, .q), (8, .g), (9, .q)] (by kernel_rfl) (by kernel_rfl) ?_
      simp only [pick, List.filterMap_cons, List.filterMap_nil, List.getElem?_toArray, List.getElem?_cons_zero, List.getElem?_cons_succ, Option.map_some]
      repeat (first
        | ((with_reducible refine wpD_p (fun K hK => ?_)); go_simp; refine hK _ ?_; clear hK K)
        | ((with_reducible refine wpD_q (fun K hK => ?_)); go_simp; (first | refine hK _ ?_ | (go_bits; refine hK _ ?_) | (go_bits; go_simp; refine hK _ ?_)); clear hK K)
        | ((with_reducible refine wpD_g (fun K hK => ?_)); go_simp; refine hK _ _ ?_; clear hK K)
        | ((with_reducible refine wpD_g (fun K hK => ?_)); go_simp; refine ⟨Grew.of_alloc _, hK _ _ ?_⟩; clear hK K)
        | ((with_reducible refine wpD_g (fun K hK => ?_)); go_simp; go_at_call 165; refine (eqTile_same _ _ _ _ _ _ _ _ hs1 hs2 hm).mono ?_; rintro e w1 ⟨rfl, hb1⟩; refine ⟨_, rfl, hb1, hK _ _ ?_⟩; clear hK K; obtain ⟨chb1, fhb1, shb1, thb1⟩ := bcell hb1; (try have bhb10 := shb1 (b) (by go_simp)); (try have bhb11 := shb1 (b2) (by go_simp))))
      with_reducible refine wpD_nil ?_
      go_wp2
      go_roundg (n - (k + 1))
      case measure => omega
      case rel => exact ⟨k + 1, by omega, by go_num, (by repeat (first | with_reducible exact bl_refl _ | with_reducible assumption | with_reducible refine bl_al ?_ _ | with_reducible refine bl_dr ?_ | with_reducible refine bl_tr ?_ (by assumption) | with_reducible refine bl_set ?_ ?_ _ | with_reducible exact Nat.le_refl _ | omega | (simp only [World.size_alloc, World.size_setCell, World.size_drew] at *; omega) | (dsimp only; omega) | (simp; done) | (simp; omega)))⟩
    · obtain rfl : k = n := by omega
      go_wp2
      go_ret
      exact ⟨rfl, hbw⟩

theorem eqTileSet_same (A B A2 B2 : Option Addr) (n c d m c2 d2 : Nat) (gs : List Gl) (ts : List Ti) (w : World) (h1 : RdSl 2 RGl w A n gs) (h2 : RdSl 2 RGl w B n gs) (k1 : RdSl 2 RTi w A2 m ts) (k2 : RdSl 2 RTi w B2 m ts)
    (hn : n ≤ 1073741824) (hm : m ≤ 1073741824) (hx : ∀ e ∈ ts, e.sides.length ≤ 1073741824) :
    Calls Tryz.prog 53 #[.agg #[.slice A n c, .slice A2 m c2], .agg #[.slice B n d, .slice B2 m d2]] w fun e w' => e = .returned (.bool true) ∧ Below w.heap.size w w' := by
  have hb0 : ∀ o1 o2, Below w.heap.size w ((w.alloc o1).alloc o2) := fun o1 o2 => bl_al (bl_al (bl_refl _) _) _
  
  go_enter Tryz.func53, Tryz.ntmps53
  go_wp2_with (first | (go_at_call 107; refine (eqGlueS_same _ _ _ _ _ gs _ (h1.below RGl.stable (hb0 _ _)) (h2.below RGl.stable (hb0 _ _)) hn).mono ?_; rintro e w1 ⟨rfl, hb1⟩; obtain ⟨chb1, fhb1, shb1, thb1⟩ := bcell hb1; (try have bhb10 := shb1 (w.heap.size) (by go_simp)); (try have bhb11 := shb1 (w.heap.size + 1) (by go_simp))) | (go_at_call 108; refine (eqTileS_same _ _ _ _ _ ts _ (k1.below RTi.stable (bl_tr (hb0 _ _) hb1)) (k2.below RTi.stable (bl_tr (hb0 _ _) hb1)) hm hx).mono ?_; rintro e w2 ⟨rfl, hb2⟩; obtain ⟨chb2, fhb2, shb2, thb2⟩ := bcell hb2; (try have bhb20 := shb2 (w.heap.size) (by go_simp)); (try have bhb21 := shb2 (w.heap.size + 1) (by go_simp))))
  go_ret
  refine ⟨rfl, ?_⟩
  repeat (first | with_reducible exact bl_refl _ | with_reducible assumption | with_reducible refine bl_al ?_ _ | with_reducible refine bl_dr ?_ | with_reducible refine bl_tr ?_ (by assumption) | with_reducible refine bl_set ?_ ?_ _ | with_reducible exact Nat.le_refl _ | omega | (simp only [World.size_alloc, World.size_setCell, World.size_drew] at *; omega) | (dsimp only; omega) | (simp; done) | (simp; omega))
theorem eqAssembly_same (A B : Option Addr) (n c d : Nat) (xs : List Pl) (w : World) (h1 : RdSl 3 RPl w A n xs) (h2 : RdSl 3 RPl w B n xs) (hn : n ≤ 1073741824) :
    Calls Tryz.prog 21 #[.agg #[.slice A n c], .agg #[.slice B n d]] w fun e w' => e = .returned (.bool true) ∧ Below w.heap.size w w' := by
  have hb0 : ∀ o1 o2, Below w.heap.size w ((w.alloc o1).alloc o2) := fun o1 o2 => bl_al (bl_al (bl_refl _) _) _
  
  go_enter Tryz.func21, Tryz.ntmps21
  go_wp2_with (go_at_call 69; refine (eqPlacedS_same _ _ _ _ _ xs _ (h1.below RPl.stable (hb0 _ _)) (h2.below RPl.stable (hb0 _ _)) hn).mono ?_; rintro e w1 ⟨rfl, hb1⟩; obtain ⟨chb1, fhb1, shb1, thb1⟩ := bcell hb1; (try have bhb10 := shb1 (w.heap.size) (by go_simp)); (try have bhb11 := shb1 (w.heap.size + 1) (by go_simp)))
  go_ret
  refine ⟨rfl, ?_⟩
  repeat (first | with_reducible exact bl_refl _ | with_reducible assumption | with_reducible refine bl_al ?_ _ | with_reducible refine bl_dr ?_ | with_reducible refine bl_tr ?_ (by assumption) | with_reducible refine bl_set ?_ ?_ _ | with_reducible exact Nat.le_refl _ | omega | (simp only [World.size_alloc, World.size_setCell, World.size_drew] at *; omega) | (dsimp only; omega) | (simp; done) | (simp; omega))
end Go.Proofs.YtcpbppblahpjbaaGreat
/- Walks: the harness' words on systems: their size, a copy, the comparison. -/



namespace Go.Proofs.YtcpbppblahpjbaaGreat
open Go.RowKit
set_option linter.unusedSimpArgs false
set_option linter.unusedVariables false
attribute [local go_sem] BelowBy.cell BelowBy.cell_drew stillUpon givesUpon

set_option maxHeartbeats 1000000 in
theorem szSystem_any (A B C : Option Addr) (n c m d q e : Nat) (gs : List Gl) (ts : List Ti) (t left : Int) (w : World) (h : RdSl 2 RGl w A n gs) (k : RdSl 2 RTi w B m ts) (h0 : 0 ≤ left) (h1 : left ≤ 1048576) (hn : n ≤ 9223372036854775807) (hm : m ≤ 9223372036854775807)
    (hx : ∀ e ∈ gs, e.name.size ≤ 9223372036854775807) (hy : ∀ e ∈ ts, e.name.size ≤ 9223372036854775807 ∧ e.sides.length ≤ 9223372036854775807) (hq : q ≤ 9223372036854775807) :
    Calls Tryz.prog 14 #[.agg #[.slice A n c, .slice B m d, .slice C q e, .int .i64 t], .int .i64 left] w (SzRes w left ((((n : Int) ≤ left ∧ ∀ e ∈ gs, (e.name.size : Int) ≤ left) ∧ ((m : Int) ≤ left ∧ ∀ e ∈ ts, (e.name.size : Int) ≤ left ∧ (e.sides.length : Int) ≤ left)) ∧ (q : Int) ≤ left)) := by
  have hb0 : ∀ o1, Below w.heap.size w (w.alloc o1) := fun o1 => bl_al (bl_refl _) _
  go_enter Tryz.func14, Tryz.ntmps14
  go_wp2_with (go_at_call 49; refine (szTileSet_any _ _ _ _ _ _ gs ts _ _ (h.below RGl.stable (hb0 _)) (k.below RTi.stable (hb0 _)) h0 h1 hn hm hx hy).mono ?_; rintro e w1 ⟨r, rfl, (rfl | ⟨hr0, hr1, hr2⟩), hb1⟩; all_goals (obtain ⟨cb1, fb1, sb1, tb1⟩ := bcell hb1; have bb1 := sb1 w.heap.size (by go_simp)))
  · go_ret
    exact ⟨_, rfl, .inl rfl, bl_tr (bl_al (bl_refl _) _) hb1⟩
  · have HR := Lib.hid hr2
    clear hr2
    go_wp2_with (go_at_call 15; refine (szAssembly_any _ _ _ _ _ hr0 (by omega) hq).mono ?_; rintro e w2 ⟨r2, rfl, (rfl | ⟨hq0, hq1, hq2⟩), hb2⟩)
    · go_ret
      exact ⟨_, rfl, .inl rfl, bl_tr (bl_tr (bl_al (bl_refl _) _) hb1) hb2⟩
    · go_wp2
      go_ret
      exact ⟨_, rfl, .inr ⟨hq0, by omega, HR.out, by omega⟩, bl_tr (bl_tr (bl_al (bl_refl _) _) hb1) hb2⟩
/-- a system that was copied -/
def ResSys (TG TT TI TP : Nat) (w : World) (n : Nat) (gs : List Gl) (m : Nat) (ts : List Ti) (q : Nat) (xs : List Pl) (t : Int) (e : Ending) (w' : World) : Prop :=
  ∃ A B C, e = .returned (.agg #[.slice A n n, .slice B m m, .slice C q q, .int .i64 t]) ∧ OwSl TG 2 RGl w' w.heap.size A n gs ∧ OwSl TT 2 (ROTi TI w.heap.size) w' w.heap.size B m ts ∧ OwSl TP 3 RPl w' w.heap.size C q xs ∧ Below w.heap.size w w'
set_option maxRecDepth 100000 in
set_option maxHeartbeats 2000000 in
theorem toSystem_any (A B C : Option Addr) (n c m d q e : Nat) (gs : List Gl) (ts : List Ti) (xs : List Pl) (t : Int) (w : World) (h : RdSl 2 RGl w A n gs) (k : RdSl 2 RTi w B m ts) (j : RdSl 3 RPl w C q xs) (hn : n ≤ 1073741824) (hm : m ≤ 1073741824) (hx : ∀ e ∈ ts, e.sides.length ≤ 1073741824) (hq : q ≤ 1073741824) :
    Calls Tryz.prog 17 #[.agg #[.slice A n c, .slice B m d, .slice C q e, .int .i64 t]] w (ResSys 207 115 2 113 w n gs m ts q xs t) := by
  go_enter Tryz.func17, Tryz.ntmps17
  go_wp2_with (go_at_call 51; refine (toTileSet_any _ _ _ _ _ _ gs ts _ (h.below RGl.stable (by repeat (first | with_reducible exact bl_refl _ | with_reducible assumption | with_reducible refine bl_al ?_ _ | with_reducible refine bl_dr ?_ | with_reducible refine bl_tr ?_ (by assumption) | with_reducible refine bl_set ?_ ?_ _ | with_reducible exact Nat.le_refl _ | omega | (simp only [World.size_alloc, World.size_setCell, World.size_drew] at *; omega) | (dsimp only; omega) | (simp; done) | (simp; omega)))) (k.below RTi.stable (by repeat (first | with_reducible exact bl_refl _ | with_reducible assumption | with_reducible refine bl_al ?_ _ | with_reducible refine bl_dr ?_ | with_reducible refine bl_tr ?_ (by assumption) | with_reducible refine bl_set ?_ ?_ _ | with_reducible exact Nat.le_refl _ | omega | (simp only [World.size_alloc, World.size_setCell, World.size_drew] at *; omega) | (dsimp only; omega) | (simp; done) | (simp; omega)))) hn hm hx).mono ?_; rintro e w1 ⟨A', B', rfl, how, how2, hb1⟩; obtain ⟨chb1, fhb1, shb1, thb1⟩ := bcell hb1; (have b0 := shb1 w.heap.size (by go_simp)); (have b1 := shb1 (w.heap.size + 1) (by go_simp)); (have b2 := shb1 (w.heap.size + 1 + 1) (by go_simp)))
  go_wp2_with (go_at_call 18; refine (toAssembly_any _ _ _ xs _ (j.below RPl.stable (by repeat (first | with_reducible exact bl_refl _ | with_reducible assumption | with_reducible refine bl_al ?_ _ | with_reducible refine bl_dr ?_ | with_reducible refine bl_tr ?_ (by assumption) | with_reducible refine bl_set ?_ ?_ _ | with_reducible exact Nat.le_refl _ | omega | (simp only [World.size_alloc, World.size_setCell, World.size_drew] at *; omega) | (dsimp only; omega) | (simp; done) | (simp; omega)))) hq).mono ?_; rintro e w2 ⟨C', rfl, how3, hb2⟩; obtain ⟨chb2, fhb2, shb2, thb2⟩ := bcell hb2; (have c0 := shb2 w.heap.size (by go_simp)); (have c1 := shb2 (w.heap.size + 1) (by go_simp)); (have c2 := shb2 (w.heap.size + 1 + 1) (by go_simp)))
  refine bodyPost_ret (v := .agg #[.slice A' n n, .slice B' m m, .slice C' q q, .int .i64 t]) (by simp only [results, Tryz.results17]; go_simp) rfl ?_
  have e1 : w.heap.size ≤ w1.heap.size := by omega
  refine ⟨A', B', C', rfl, (((((((((how.set (RGl.stableAt _) ?_ _).set (RGl.stableAt _) ?_ _).below RGl.stable hb2).set (RGl.stableAt _) ?_ _).set (RGl.stableAt _) ?_ _).set (RGl.stableAt _) ?_ _).set (RGl.stableAt _) ?_ _).set (RGl.stableAt _) ?_ _).set (RGl.stableAt _) ?_ _).weaken ?_,
    (((((((((how2.set (ROTi.stableAt _ _) ?_ _).set (ROTi.stableAt _ _) ?_ _).below (ROTi.stable _ _) hb2).set (ROTi.stableAt _ _) ?_ _).set (ROTi.stableAt _ _) ?_ _).set (ROTi.stableAt _ _) ?_ _).set (ROTi.stableAt _ _) ?_ _).set (ROTi.stableAt _ _) ?_ _).set (ROTi.stableAt _ _) ?_ _).weakenTi ?_ ?_,
    ((((((how3.set (RPl.stableAt _) ?_ _).set (RPl.stableAt _) ?_ _).set (RPl.stableAt _) ?_ _).set (RPl.stableAt _) ?_ _).set (RPl.stableAt _) ?_ _).set (RPl.stableAt _) ?_ _).weaken ?_, ?_⟩
  all_goals repeat (first | with_reducible exact bl_refl _ | with_reducible assumption | with_reducible refine bl_al ?_ _ | with_reducible refine bl_dr ?_ | with_reducible refine bl_tr ?_ (by assumption) | with_reducible refine bl_set ?_ ?_ _ | with_reducible exact Nat.le_refl _ | omega | (simp only [World.size_alloc, World.size_setCell, World.size_drew] at *; omega) | (dsimp only; omega) | (simp; done) | (simp; omega))
set_option maxHeartbeats 1000000 in
theorem eqSystem_same (A B A2 B2 A3 B3 : Option Addr) (n c d m c2 d2 q c3 d3 : Nat) (gs : List Gl) (ts : List Ti) (xs : List Pl) (t : Int) (w : World) (h1 : RdSl 2 RGl w A n gs) (h2 : RdSl 2 RGl w B n gs) (k1 : RdSl 2 RTi w A2 m ts) (k2 : RdSl 2 RTi w B2 m ts) (j1 : RdSl 3 RPl w A3 q xs) (j2 : RdSl 3 RPl w B3 q xs)
    (hn : n ≤ 1073741824) (hm : m ≤ 1073741824) (hx : ∀ e ∈ ts, e.sides.length ≤ 1073741824) (hq : q ≤ 1073741824) :
    Calls Tryz.prog 20 #[.agg #[.slice A n c, .slice A2 m c2, .slice A3 q c3, .int .i64 t], .agg #[.slice B n d, .slice B2 m d2, .slice B3 q d3, .int .i64 t]] w fun e w' => e = .returned (.bool true) ∧ Below w.heap.size w w' := by
  have hb0 : ∀ o1 o2, Below w.heap.size w ((w.alloc o1).alloc o2) := fun o1 o2 => bl_al (bl_al (bl_refl _) _) _
  
  go_enter Tryz.func20, Tryz.ntmps20
  go_wp2_with (first | (go_at_call 53; refine (eqTileSet_same _ _ _ _ _ _ _ _ _ _ gs ts _ (h1.below RGl.stable (hb0 _ _)) (h2.below RGl.stable (hb0 _ _)) (k1.below RTi.stable (hb0 _ _)) (k2.below RTi.stable (hb0 _ _)) hn hm hx).mono ?_; rintro e w1 ⟨rfl, hb1⟩; obtain ⟨chb1, fhb1, shb1, thb1⟩ := bcell hb1; (try have bhb10 := shb1 (w.heap.size) (by go_simp)); (try have bhb11 := shb1 (w.heap.size + 1) (by go_simp))) | (go_at_call 21; refine (eqAssembly_same _ _ _ _ _ xs _ (j1.below RPl.stable (bl_tr (hb0 _ _) hb1)) (j2.below RPl.stable (bl_tr (hb0 _ _) hb1)) hq).mono ?_; rintro e w2 ⟨rfl, hb2⟩; obtain ⟨chb2, fhb2, shb2, thb2⟩ := bcell hb2; (try have bhb20 := shb2 (w.heap.size) (by go_simp)); (try have bhb21 := shb2 (w.heap.size + 1) (by go_simp))))
  go_ret
  refine ⟨rfl, ?_⟩
  repeat (first | with_reducible exact bl_refl _ | with_reducible assumption | with_reducible refine bl_al ?_ _ | with_reducible refine bl_dr ?_ | with_reducible refine bl_tr ?_ (by assumption) | with_reducible refine bl_set ?_ ?_ _ | with_reducible exact Nat.le_refl _ | omega | (simp only [World.size_alloc, World.size_setCell, World.size_drew] at *; omega) | (dsimp only; omega) | (simp; done) | (simp; omega))
end Go.Proofs.YtcpbppblahpjbaaGreat
/- Walks: the harness' words on desks: their size, a copy, the comparison. -/

namespace Go.Proofs.YtcpbppblahpjbaaGreat
open Go.RowKit
set_option linter.unusedSimpArgs false
set_option linter.unusedVariables false
attribute [local go_sem] BelowBy.cell BelowBy.cell_drew stillUpon givesUpon

set_option maxRecDepth 100000 in
set_option maxHeartbeats 1000000 in
theorem szDesk_any (ld : Bool) (A B C D F : Option Addr) (n c m d q e k cd nf cf : Nat) (gs : List Gl) (ts : List Ti) (t left : Int) (w : World) (h : RdSl 2 RGl w A n gs) (hk : RdSl 2 RTi w B m ts) (h0 : 0 ≤ left) (h1 : left ≤ 1048576) (hn : n ≤ 9223372036854775807) (hm : m ≤ 9223372036854775807)
    (hx : ∀ e ∈ gs, e.name.size ≤ 9223372036854775807) (hy : ∀ e ∈ ts, e.name.size ≤ 9223372036854775807 ∧ e.sides.length ≤ 9223372036854775807) (hq : q ≤ 9223372036854775807) (hkk : k ≤ 9223372036854775807) (hf : nf ≤ 9223372036854775807) :
    Calls Tryz.prog 36 #[.agg #[.bool ld, .slice A n c, .slice B m d, .slice C q e, .int .i64 t, .slice D k cd, .slice F nf cf], .int .i64 left] w (SzRes w left (((((n : Int) ≤ left ∧ ∀ e ∈ gs, (e.name.size : Int) ≤ left) ∧ ((m : Int) ≤ left ∧ ∀ e ∈ ts, (e.name.size : Int) ≤ left ∧ (e.sides.length : Int) ≤ left)) ∧ (q : Int) ≤ left) ∧ (k : Int) ≤ left ∧ (nf : Int) ≤ left)) := by
  have hxH := Lib.hid hx
  have hyH := Lib.hid hy
  clear hx hy
  go_enter Tryz.func36, Tryz.ntmps36
  go_wp2_with fail
  refine (szSystem_any A B C n c m d q e gs ts t left _ (h.below RGl.stable (by repeat (first | with_reducible exact bl_refl _ | with_reducible assumption | with_reducible refine bl_al ?_ _ | with_reducible refine bl_dr ?_ | with_reducible refine bl_tr ?_ (by assumption) | with_reducible refine bl_set ?_ ?_ _ | with_reducible exact Nat.le_refl _ | omega | (simp only [World.size_alloc, World.size_setCell, World.size_drew] at *; omega) | (dsimp only; omega) | (simp; done) | (simp; omega)))) (hk.below RTi.stable (by repeat (first | with_reducible exact bl_refl _ | with_reducible assumption | with_reducible refine bl_al ?_ _ | with_reducible refine bl_dr ?_ | with_reducible refine bl_tr ?_ (by assumption) | with_reducible refine bl_set ?_ ?_ _ | with_reducible exact Nat.le_refl _ | omega | (simp only [World.size_alloc, World.size_setCell, World.size_drew] at *; omega) | (dsimp only; omega) | (simp; done) | (simp; omega)))) h0 h1 hn hm hxH.out hyH.out hq).mono ?_
  rintro e w1 ⟨r, rfl, (rfl | ⟨hr0, hr1, hr2⟩), hb1⟩
  all_goals (obtain ⟨cb1, fb1, sb1, tb1⟩ := bcell hb1; have bb1 := sb1 w.heap.size (by go_simp))
  · go_wp2
    go_ret
    exact ⟨_, rfl, .inl rfl, bl_tr (bl_al (bl_refl _) _) hb1⟩
  · have HR := Lib.hid hr2
    clear hr2
    go_wp2_with fail
    refine (szAssembly_any _ _ _ _ _ hr0 (by omega) hkk).mono ?_
    rintro e w2 ⟨r2, rfl, (rfl | ⟨hs0, hs1, hs2⟩), hb2⟩
    all_goals (obtain ⟨cb2, fb2, sb2, tb2⟩ := bcell hb2; have bb2 := sb2 w.heap.size (by go_simp))
    · go_wp2
      go_ret
      exact ⟨_, rfl, .inl rfl, bl_tr (bl_tr (bl_al (bl_refl _) _) hb1) hb2⟩
    · go_wp2_with (go_at_call 78; refine (szInt64S_any _ _ _ _ _ hs0 (by omega) hf).mono ?_; rintro e w3 ⟨r3, rfl, (rfl | ⟨hq0, hq1, hq2⟩), hb3⟩)
      · go_ret
        exact ⟨_, rfl, .inl rfl, bl_tr (bl_tr (bl_tr (bl_al (bl_refl _) _) hb1) hb2) hb3⟩
      · go_wp2
        go_ret
        exact ⟨_, rfl, .inr ⟨hq0, by omega, HR.out, by omega, by omega⟩, bl_tr (bl_tr (bl_tr (bl_al (bl_refl _) _) hb1) hb2) hb3⟩
/-- a desk that was copied -/
def ResDesk (TG TT TI TP : Nat) (w : World) (ld : Bool) (n : Nat) (gs : List Gl) (m : Nat) (ts : List Ti) (q : Nat) (xs : List Pl) (t : Int) (k : Nat) (ys : List Pl) (nf : Nat) (fl : List Int) (e : Ending) (w' : World) : Prop :=
  ∃ A B C D F, e = .returned (.agg #[.bool ld, .slice A n n, .slice B m m, .slice C q q, .int .i64 t, .slice D k k, .slice F nf nf]) ∧ (OwSl TG 2 RGl w' w.heap.size A n gs ∧ OwSl TT 2 (ROTi TI w.heap.size) w' w.heap.size B m ts ∧ OwSl TP 3 RPl w' w.heap.size C q xs) ∧ OwSl TP 3 RPl w' w.heap.size D k ys ∧ OwSl TI 1 RInt w' w.heap.size F nf fl ∧ Below w.heap.size w w'
set_option maxRecDepth 100000 in
set_option maxHeartbeats 4000000 in
theorem toDesk_any (ld : Bool) (A B C D F : Option Addr) (n c m d q e k cd nf cf : Nat) (gs : List Gl) (ts : List Ti) (xs ys : List Pl) (t : Int) (fl : List Int) (w : World) (h : RdSl 2 RGl w A n gs) (hk : RdSl 2 RTi w B m ts) (j : RdSl 3 RPl w C q xs) (j2 : RdSl 3 RPl w D k ys) (hF : RdSl 1 RInt w F nf fl)
    (hn : n ≤ 1073741824) (hm : m ≤ 1073741824) (hx : ∀ e ∈ ts, e.sides.length ≤ 1073741824) (hq : q ≤ 1073741824) (hkk : k ≤ 1073741824) (hf : nf ≤ 1073741824) :
    Calls Tryz.prog 38 #[.agg #[.bool ld, .slice A n c, .slice B m d, .slice C q e, .int .i64 t, .slice D k cd, .slice F nf cf]] w (ResDesk 207 115 2 113 w ld n gs m ts q xs t k ys nf fl) := by
  have hxH := Lib.hid hx
  clear hx
  go_enter Tryz.func38, Tryz.ntmps38
  go_wp2_with fail
  refine (toSystem_any A B C n c m d q e gs ts xs t _ (h.below RGl.stable (by repeat (first | with_reducible exact bl_refl _ | with_reducible assumption | with_reducible refine bl_al ?_ _ | with_reducible refine bl_dr ?_ | with_reducible refine bl_tr ?_ (by assumption) | with_reducible refine bl_set ?_ ?_ _ | with_reducible exact Nat.le_refl _ | omega | (simp only [World.size_alloc, World.size_setCell, World.size_drew] at *; omega) | (dsimp only; omega) | (simp; done) | (simp; omega)))) (hk.below RTi.stable (by repeat (first | with_reducible exact bl_refl _ | with_reducible assumption | with_reducible refine bl_al ?_ _ | with_reducible refine bl_dr ?_ | with_reducible refine bl_tr ?_ (by assumption) | with_reducible refine bl_set ?_ ?_ _ | with_reducible exact Nat.le_refl _ | omega | (simp only [World.size_alloc, World.size_setCell, World.size_drew] at *; omega) | (dsimp only; omega) | (simp; done) | (simp; omega)))) (j.below RPl.stable (by repeat (first | with_reducible exact bl_refl _ | with_reducible assumption | with_reducible refine bl_al ?_ _ | with_reducible refine bl_dr ?_ | with_reducible refine bl_tr ?_ (by assumption) | with_reducible refine bl_set ?_ ?_ _ | with_reducible exact Nat.le_refl _ | omega | (simp only [World.size_alloc, World.size_setCell, World.size_drew] at *; omega) | (dsimp only; omega) | (simp; done) | (simp; omega)))) hn hm hxH.out hq).mono ?_
  rintro e w1 ⟨A', B', C', rfl, ho1, ho2, ho3, hb1⟩
  obtain ⟨chb1, fhb1, shb1, thb1⟩ := bcell hb1; (have b0 := shb1 w.heap.size (by go_simp)); (have b1 := shb1 (w.heap.size + 1) (by go_simp)); (have b2 := shb1 (w.heap.size + 1 + 1) (by go_simp))
  go_wp2_with fail
  refine (toAssembly_any D k cd ys _ (j2.below RPl.stable (by repeat (first | with_reducible exact bl_refl _ | with_reducible assumption | with_reducible refine bl_al ?_ _ | with_reducible refine bl_dr ?_ | with_reducible refine bl_tr ?_ (by assumption) | with_reducible refine bl_set ?_ ?_ _ | with_reducible exact Nat.le_refl _ | omega | (simp only [World.size_alloc, World.size_setCell, World.size_drew] at *; omega) | (dsimp only; omega) | (simp; done) | (simp; omega)))) hkk).mono ?_
  rintro e w2 ⟨D', rfl, ho4, hb2⟩
  obtain ⟨chb2, fhb2, shb2, thb2⟩ := bcell hb2; (have d0 := shb2 w.heap.size (by go_simp)); (have d1 := shb2 (w.heap.size + 1) (by go_simp)); (have d2 := shb2 (w.heap.size + 1 + 1) (by go_simp))
  go_wp2_with fail
  refine (toInt64S_any F nf cf fl _ (hF.below RInt.stable (by repeat (first | with_reducible exact bl_refl _ | with_reducible assumption | with_reducible refine bl_al ?_ _ | with_reducible refine bl_dr ?_ | with_reducible refine bl_tr ?_ (by assumption) | with_reducible refine bl_set ?_ ?_ _ | with_reducible exact Nat.le_refl _ | omega | (simp only [World.size_alloc, World.size_setCell, World.size_drew] at *; omega) | (dsimp only; omega) | (simp; done) | (simp; omega)))) hf).mono ?_
  rintro e w3 ⟨F', rfl, ho5, hb3⟩
  obtain ⟨chb3, fhb3, shb3, thb3⟩ := bcell hb3; (have g0 := shb3 w.heap.size (by go_simp)); (have g1 := shb3 (w.heap.size + 1) (by go_simp)); (have g2 := shb3 (w.heap.size + 1 + 1) (by go_simp))
  go_wp2
  refine bodyPost_ret (v := .agg #[.bool ld, .slice A' n n, .slice B' m m, .slice C' q q, .int .i64 t, .slice D' k k, .slice F' nf nf]) (by simp only [results, Tryz.results38]; go_simp) rfl ?_
  have e1 : w.heap.size ≤ w1.heap.size := by omega
  have e2 : w.heap.size ≤ w2.heap.size := by omega
  refine ⟨A', B', C', D', F', rfl, ⟨(((((((((((((((ho1.set (RGl.stableAt _) ?_ _).set (RGl.stableAt _) ?_ _).set (RGl.stableAt _) ?_ _).set (RGl.stableAt _) ?_ _).below RGl.stable hb2).set (RGl.stableAt _) ?_ _).below RGl.stable hb3).set (RGl.stableAt _) ?_ _).set (RGl.stableAt _) ?_ _).set (RGl.stableAt _) ?_ _).set (RGl.stableAt _) ?_ _).set (RGl.stableAt _) ?_ _).set (RGl.stableAt _) ?_ _).set (RGl.stableAt _) ?_ _).set (RGl.stableAt _) ?_ _).weaken ?_,
    (((((((((((((((ho2.set (ROTi.stableAt _ _) ?_ _).set (ROTi.stableAt _ _) ?_ _).set (ROTi.stableAt _ _) ?_ _).set (ROTi.stableAt _ _) ?_ _).below (ROTi.stable _ _) hb2).set (ROTi.stableAt _ _) ?_ _).below (ROTi.stable _ _) hb3).set (ROTi.stableAt _ _) ?_ _).set (ROTi.stableAt _ _) ?_ _).set (ROTi.stableAt _ _) ?_ _).set (ROTi.stableAt _ _) ?_ _).set (ROTi.stableAt _ _) ?_ _).set (ROTi.stableAt _ _) ?_ _).set (ROTi.stableAt _ _) ?_ _).set (ROTi.stableAt _ _) ?_ _).weakenTi ?_ ?_,
    (((((((((((((((ho3.set (RPl.stableAt _) ?_ _).set (RPl.stableAt _) ?_ _).set (RPl.stableAt _) ?_ _).set (RPl.stableAt _) ?_ _).below RPl.stable hb2).set (RPl.stableAt _) ?_ _).below RPl.stable hb3).set (RPl.stableAt _) ?_ _).set (RPl.stableAt _) ?_ _).set (RPl.stableAt _) ?_ _).set (RPl.stableAt _) ?_ _).set (RPl.stableAt _) ?_ _).set (RPl.stableAt _) ?_ _).set (RPl.stableAt _) ?_ _).set (RPl.stableAt _) ?_ _).weaken ?_⟩,
    ((((((((((ho4.set (RPl.stableAt _) ?_ _).below RPl.stable hb3).set (RPl.stableAt _) ?_ _).set (RPl.stableAt _) ?_ _).set (RPl.stableAt _) ?_ _).set (RPl.stableAt _) ?_ _).set (RPl.stableAt _) ?_ _).set (RPl.stableAt _) ?_ _).set (RPl.stableAt _) ?_ _).set (RPl.stableAt _) ?_ _).weaken ?_,
    ((((((((ho5.set (RInt.stableAt _) ?_ _).set (RInt.stableAt _) ?_ _).set (RInt.stableAt _) ?_ _).set (RInt.stableAt _) ?_ _).set (RInt.stableAt _) ?_ _).set (RInt.stableAt _) ?_ _).set (RInt.stableAt _) ?_ _).set (RInt.stableAt _) ?_ _).weaken ?_,
    ?_⟩
  all_goals repeat (first | with_reducible exact bl_refl _ | with_reducible assumption | with_reducible refine bl_al ?_ _ | with_reducible refine bl_dr ?_ | with_reducible refine bl_tr ?_ (by assumption) | with_reducible refine bl_set ?_ ?_ _ | with_reducible exact Nat.le_refl _ | omega | (simp only [World.size_alloc, World.size_setCell, World.size_drew] at *; omega) | (dsimp only; omega) | (simp; done) | (simp; omega))
set_option maxRecDepth 100000 in
set_option maxHeartbeats 1000000 in
theorem eqDesk_same (ld : Bool) (A B A2 B2 A3 B3 D D' F F' : Option Addr) (n c d m c2 d2 q c3 d3 k cd cd' nf cf cf' : Nat) (gs : List Gl) (ts : List Ti) (xs ys : List Pl) (fl : List Int) (t : Int) (w : World)
    (h1 : RdSl 2 RGl w A n gs) (h2 : RdSl 2 RGl w B n gs) (k1 : RdSl 2 RTi w A2 m ts) (k2 : RdSl 2 RTi w B2 m ts) (j1 : RdSl 3 RPl w A3 q xs) (j2 : RdSl 3 RPl w B3 q xs) (i1 : RdSl 3 RPl w D k ys) (i2 : RdSl 3 RPl w D' k ys) (f1 : RdSl 1 RInt w F nf fl) (f2 : RdSl 1 RInt w F' nf fl)
    (hn : n ≤ 1073741824) (hm : m ≤ 1073741824) (hx : ∀ e ∈ ts, e.sides.length ≤ 1073741824) (hq : q ≤ 1073741824) (hk : k ≤ 1073741824) (hf : nf ≤ 1073741824) :
    Calls Tryz.prog 40 #[.agg #[.bool ld, .slice A n c, .slice A2 m c2, .slice A3 q c3, .int .i64 t, .slice D k cd, .slice F nf cf], .agg #[.bool ld, .slice B n d, .slice B2 m d2, .slice B3 q d3, .int .i64 t, .slice D' k cd', .slice F' nf cf']] w fun e w' => e = .returned (.bool true) ∧ Below w.heap.size w w' := by
  have hxH := Lib.hid hx
  clear hx
  
  cases ld
  all_goals
    go_enter Tryz.func40, Tryz.ntmps40
    go_wp2_with fail
    refine (eqSystem_same A B A2 B2 A3 B3 n c d m c2 d2 q c3 d3 gs ts xs t _ (h1.below RGl.stable (by repeat (first | with_reducible exact bl_refl _ | with_reducible assumption | with_reducible refine bl_al ?_ _ | with_reducible refine bl_dr ?_ | with_reducible refine bl_tr ?_ (by assumption) | with_reducible refine bl_set ?_ ?_ _ | with_reducible exact Nat.le_refl _ | omega | (simp only [World.size_alloc, World.size_setCell, World.size_drew] at *; omega) | (dsimp only; omega) | (simp; done) | (simp; omega)))) (h2.below RGl.stable (by repeat (first | with_reducible exact bl_refl _ | with_reducible assumption | with_reducible refine bl_al ?_ _ | with_reducible refine bl_dr ?_ | with_reducible refine bl_tr ?_ (by assumption) | with_reducible refine bl_set ?_ ?_ _ | with_reducible exact Nat.le_refl _ | omega | (simp only [World.size_alloc, World.size_setCell, World.size_drew] at *; omega) | (dsimp only; omega) | (simp; done) | (simp; omega)))) (k1.below RTi.stable (by repeat (first | with_reducible exact bl_refl _ | with_reducible assumption | with_reducible refine bl_al ?_ _ | with_reducible refine bl_dr ?_ | with_reducible refine bl_tr ?_ (by assumption) | with_reducible refine bl_set ?_ ?_ _ | with_reducible exact Nat.le_refl _ | omega | (simp only [World.size_alloc, World.size_setCell, World.size_drew] at *; omega) | (dsimp only; omega) | (simp; done) | (simp; omega)))) (k2.below RTi.stable (by repeat (first | with_reducible exact bl_refl _ | with_reducible assumption | with_reducible refine bl_al ?_ _ | with_reducible refine bl_dr ?_ | with_reducible refine bl_tr ?_ (by assumption) | with_reducible refine bl_set ?_ ?_ _ | with_reducible exact Nat.le_refl _ | omega | (simp only [World.size_alloc, World.size_setCell, World.size_drew] at *; omega) | (dsimp only; omega) | (simp; done) | (simp; omega)))) (j1.below RPl.stable (by repeat (first | with_reducible exact bl_refl _ | with_reducible assumption | with_reducible refine bl_al ?_ _ | with_reducible refine bl_dr ?_ | with_reducible refine bl_tr ?_ (by assumption) | with_reducible refine bl_set ?_ ?_ _ | with_reducible exact Nat.le_refl _ | omega | (simp only [World.size_alloc, World.size_setCell, World.size_drew] at *; omega) | (dsimp only; omega) | (simp; done) | (simp; omega)))) (j2.below RPl.stable (by repeat (first | with_reducible exact bl_refl _ | with_reducible assumption | with_reducible refine bl_al ?_ _ | with_reducible refine bl_dr ?_ | with_reducible refine bl_tr ?_ (by assumption) | with_reducible refine bl_set ?_ ?_ _ | with_reducible exact Nat.le_refl _ | omega | (simp only [World.size_alloc, World.size_setCell, World.size_drew] at *; omega) | (dsimp only; omega) | (simp; done) | (simp; omega)))) hn hm hxH.out hq).mono ?_
    rintro e w1 ⟨rfl, hb1⟩
    obtain ⟨chb1, fhb1, shb1, thb1⟩ := bcell hb1
    have b0 := shb1 w.heap.size (by go_simp)
    have b1 := shb1 (w.heap.size + 1) (by go_simp)
    go_wp2_with fail
    refine (eqAssembly_same _ _ _ _ _ ys _ (i1.below RPl.stable (by repeat (first | with_reducible exact bl_refl _ | with_reducible assumption | with_reducible refine bl_al ?_ _ | with_reducible refine bl_dr ?_ | with_reducible refine bl_tr ?_ (by assumption) | with_reducible refine bl_set ?_ ?_ _ | with_reducible exact Nat.le_refl _ | omega | (simp only [World.size_alloc, World.size_setCell, World.size_drew] at *; omega) | (dsimp only; omega) | (simp; done) | (simp; omega)))) (i2.below RPl.stable (by repeat (first | with_reducible exact bl_refl _ | with_reducible assumption | with_reducible refine bl_al ?_ _ | with_reducible refine bl_dr ?_ | with_reducible refine bl_tr ?_ (by assumption) | with_reducible refine bl_set ?_ ?_ _ | with_reducible exact Nat.le_refl _ | omega | (simp only [World.size_alloc, World.size_setCell, World.size_drew] at *; omega) | (dsimp only; omega) | (simp; done) | (simp; omega)))) hk).mono ?_
    rintro e w2 ⟨rfl, hb2⟩
    obtain ⟨chb2, fhb2, shb2, thb2⟩ := bcell hb2
    have d0 := shb2 w.heap.size (by go_simp)
    have d1 := shb2 (w.heap.size + 1) (by go_simp)
    go_wp2_with fail
    refine (eqInt64S_same F F' nf cf cf' fl _ (f1.below RInt.stable (by repeat (first | with_reducible exact bl_refl _ | with_reducible assumption | with_reducible refine bl_al ?_ _ | with_reducible refine bl_dr ?_ | with_reducible refine bl_tr ?_ (by assumption) | with_reducible refine bl_set ?_ ?_ _ | with_reducible exact Nat.le_refl _ | omega | (simp only [World.size_alloc, World.size_setCell, World.size_drew] at *; omega) | (dsimp only; omega) | (simp; done) | (simp; omega)))) (f2.below RInt.stable (by repeat (first | with_reducible exact bl_refl _ | with_reducible assumption | with_reducible refine bl_al ?_ _ | with_reducible refine bl_dr ?_ | with_reducible refine bl_tr ?_ (by assumption) | with_reducible refine bl_set ?_ ?_ _ | with_reducible exact Nat.le_refl _ | omega | (simp only [World.size_alloc, World.size_setCell, World.size_drew] at *; omega) | (dsimp only; omega) | (simp; done) | (simp; omega)))) hf).mono ?_
    rintro e w3 ⟨rfl, hb3⟩
    go_wp2
    go_ret
    refine ⟨rfl, ?_⟩
    repeat (first | with_reducible exact bl_refl _ | with_reducible assumption | with_reducible refine bl_al ?_ _ | with_reducible refine bl_dr ?_ | with_reducible refine bl_tr ?_ (by assumption) | with_reducible refine bl_set ?_ ?_ _ | with_reducible exact Nat.le_refl _ | omega | (simp only [World.size_alloc, World.size_setCell, World.size_drew] at *; omega) | (dsimp only; omega) | (simp; done) | (simp; omega))
end Go.Proofs.YtcpbppblahpjbaaGreat
