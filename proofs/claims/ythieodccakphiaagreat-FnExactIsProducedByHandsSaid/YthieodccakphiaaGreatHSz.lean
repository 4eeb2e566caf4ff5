/- Walks: the harness' counting. -/
import Derived.Test.YthieodccakphiaaGreatW1
import Derived.Test.YthieodccakphiaaGreatBase2
namespace Go.Proofs.YthieodccakphiaaGreat
open Go.RowKit
set_option linter.unusedSimpArgs false
set_option linter.unusedVariables false
attribute [local go_sem] BelowBy.cell BelowBy.cell_drew stillUpon givesUpon

theorem szGlue_any (s : ByteArray) (t left : Int) (w : World) (h0 : 0 ≤ left) (h1 : left ≤ 1048576) (hs : s.size ≤ 9223372036854775807) :
    Calls Tryz.prog 47 #[.agg #[.string s, .int .i64 t], .int .i64 left] w (SzRes w left ((s.size : Int) ≤ left)) := by
  by_cases h : (s.size : Int) ≤ left
  · go_enter Tryz.func47, Tryz.ntmps47
    go_wp2
    go_ret
    exact ⟨_, rfl, .inr ⟨by omega, by omega, h⟩, bl_al (bl_refl _) _⟩
  · go_enter Tryz.func47, Tryz.ntmps47
    go_wp2
    go_ret
    exact ⟨_, rfl, .inl rfl, bl_al (bl_refl _) _⟩
theorem szInt64S_any (A : Option Addr) (n c : Nat) (left : Int) (w : World) (h0 : 0 ≤ left) (h1 : left ≤ 1048576) (hs : n ≤ 9223372036854775807) :
    Calls Tryz.prog 87 #[.slice A n c, .int .i64 left] w (SzRes w left ((n : Int) ≤ left)) := by
  by_cases h : (n : Int) ≤ left
  · go_enter Tryz.func87, Tryz.ntmps87
    go_wp2
    go_ret
    exact ⟨_, rfl, .inr ⟨by omega, by omega, h⟩, bl_refl _⟩
  · go_enter Tryz.func87, Tryz.ntmps87
    go_wp2
    go_ret
    exact ⟨_, rfl, .inl rfl, bl_refl _⟩
theorem szPlacedS_any (A : Option Addr) (n c : Nat) (left : Int) (w : World) (h0 : 0 ≤ left) (h1 : left ≤ 1048576) (hs : n ≤ 9223372036854775807) :
    Calls Tryz.prog 24 #[.slice A n c, .int .i64 left] w (SzRes w left ((n : Int) ≤ left)) := by
  by_cases h : (n : Int) ≤ left
  · go_enter Tryz.func24, Tryz.ntmps24
    go_wp2
    go_ret
    exact ⟨_, rfl, .inr ⟨by omega, by omega, h⟩, bl_refl _⟩
  · go_enter Tryz.func24, Tryz.ntmps24
    go_wp2
    go_ret
    exact ⟨_, rfl, .inl rfl, bl_refl _⟩
theorem szAssembly_any (A : Option Addr) (n c : Nat) (left : Int) (w : World) (h0 : 0 ≤ left) (h1 : left ≤ 1048576) (hs : n ≤ 9223372036854775807) :
    Calls Tryz.prog 6 #[.agg #[.slice A n c], .int .i64 left] w (SzRes w left ((n : Int) ≤ left)) := by
  go_enter Tryz.func6, Tryz.ntmps6
  go_wp2_with (go_at_call 24; refine (szPlacedS_any _ _ _ _ _ h0 h1 hs).mono ?_; rintro e w1 ⟨r, rfl, (rfl | ⟨hr0, hr1, hr2⟩), hb1⟩)
  · go_ret
    exact ⟨_, rfl, .inl rfl, bl_tr (bl_al (bl_refl _) _) hb1⟩
  · go_wp2
    go_ret
    exact ⟨_, rfl, .inr ⟨hr0, hr1, hr2⟩, bl_tr (bl_al (bl_refl _) _) hb1⟩
theorem szTile_any (s : ByteArray) (A : Option Addr) (n c : Nat) (left : Int) (w : World) (h0 : 0 ≤ left) (h1 : left ≤ 1048576) (hs : s.size ≤ 9223372036854775807) (hn : n ≤ 9223372036854775807) :
    Calls Tryz.prog 48 #[.agg #[.string s, .slice A n c], .int .i64 left] w (SzRes w left ((s.size : Int) ≤ left ∧ (n : Int) ≤ left)) := by
  by_cases h : (s.size : Int) ≤ left
  · go_enter Tryz.func48, Tryz.ntmps48
    go_wp2_with (go_at_call 87; refine (szInt64S_any _ _ _ _ _ (by omega) (by omega) hn).mono ?_; rintro e w1 ⟨r, rfl, (rfl | ⟨hr0, hr1, hr2⟩), hb1⟩)
    · go_ret
      exact ⟨_, rfl, .inl rfl, bl_tr (bl_al (bl_refl _) _) hb1⟩
    · go_wp2
      go_ret
      exact ⟨_, rfl, .inr ⟨hr0, by omega, h, by omega⟩, bl_tr (bl_al (bl_refl _) _) hb1⟩
  · go_enter Tryz.func48, Tryz.ntmps48
    go_wp2
    go_ret
    exact ⟨_, rfl, .inl rfl, bl_al (bl_refl _) _⟩

set_option maxHeartbeats 1000000 in
theorem szGlueS_any (A : Option Addr) (n c : Nat) (xs : List Gl) (left : Int) (w : World) (h : RdSl 2 RGl w A n xs) (h0 : 0 ≤ left) (h1 : left ≤ 1048576) (hn : n ≤ 9223372036854775807) (hx : ∀ e ∈ xs, e.name.size ≤ 9223372036854775807) :
    Calls Tryz.prog 22 #[.slice A n c, .int .i64 left] w (SzRes w left ((n : Int) ≤ left ∧ ∀ e ∈ xs, (e.name.size : Int) ≤ left)) := by
  by_cases hle : (n : Int) ≤ left
  · go_enter Tryz.func22, Tryz.ntmps22
    go_wp2
    go_loopg [1, 5] n (fun g l i wr => ∃ (k : Nat) (L : Int), k + g = n ∧ i = .int .i64 k ∧ l = .int .i64 L ∧ 0 ≤ L ∧ L ≤ left ∧ (∀ j e, j < k → xs[j]? = some e → (e.name.size : Int) ≤ left) ∧ Below w.heap.size w wr)
    case atStart => exact ⟨0, _, by omega, rfl, rfl, by omega, by omega, fun j e hj => by omega, Below.refl _ _⟩
    case round =>
      obtain ⟨k, L, hk, rfl, rfl, hL0, hL1, hok, hbw⟩ := hrel
      have r1 := h.below RGl.stable hbw
      by_cases hlt : k < n
      · obtain ⟨b, o, rfl, hb, hc⟩ := r1.ptr (by omega)
        obtain ⟨e, he⟩ := h.get hlt
        have HE := Lib.hid he
        obtain ⟨c1, c1b⟩ := hc k e he
        clear hc he r1
        go_wp2_with (go_at_call 47; refine (szGlue_any _ _ _ _ hL0 (by omega) (hx _ (List.mem_of_getElem? HE.out))).mono ?_; rintro e' w1 ⟨r, rfl, (rfl | ⟨hr0, hr1, hr2⟩), hb1⟩)
        · go_ret
          exact ⟨_, rfl, .inl rfl, bl_tr hbw hb1⟩
        · go_wp2
          go_roundg (n - (k + 1))
          case measure => omega
          case rel => exact ⟨k + 1, _, by omega, by go_num, rfl, by omega, by omega, fun j e' hj he' => (by
            rcases Nat.lt_succ_iff_lt_or_eq.1 hj with hj | rfl
            · exact hok j e' hj he'
            · obtain rfl := Option.some.inj (HE.out.symm.trans he'); omega), bl_tr hbw hb1⟩
      · obtain rfl : k = n := by omega
        go_wp2
        go_ret
        exact ⟨_, rfl, .inr ⟨hL0, hL1, hle, fun e he => by
          obtain ⟨j, hj, rfl⟩ := List.mem_iff_getElem.1 he
          exact hok j _ (by have := h.len; omega) (List.getElem?_eq_getElem hj)⟩, hbw⟩
  · go_enter Tryz.func22, Tryz.ntmps22
    go_wp2
    go_ret
    exact ⟨_, rfl, .inl rfl, bl_refl _⟩

set_option maxHeartbeats 1000000 in
theorem szTileS_any (A : Option Addr) (n c : Nat) (xs : List Ti) (left : Int) (w : World) (h : RdSl 2 RTi w A n xs) (h0 : 0 ≤ left) (h1 : left ≤ 1048576) (hn : n ≤ 9223372036854775807) (hx : ∀ e ∈ xs, e.name.size ≤ 9223372036854775807 ∧ e.sides.length ≤ 9223372036854775807) :
    Calls Tryz.prog 23 #[.slice A n c, .int .i64 left] w (SzRes w left ((n : Int) ≤ left ∧ ∀ e ∈ xs, (e.name.size : Int) ≤ left ∧ (e.sides.length : Int) ≤ left)) := by
  by_cases hle : (n : Int) ≤ left
  · go_enter Tryz.func23, Tryz.ntmps23
    go_wp2
    go_loopg [1, 5] n (fun g l i wr => ∃ (k : Nat) (L : Int), k + g = n ∧ i = .int .i64 k ∧ l = .int .i64 L ∧ 0 ≤ L ∧ L ≤ left ∧ (∀ j e, j < k → xs[j]? = some e → (e.name.size : Int) ≤ left ∧ (e.sides.length : Int) ≤ left) ∧ Below w.heap.size w wr)
    case atStart => exact ⟨0, _, by omega, rfl, rfl, by omega, by omega, fun j e hj => by omega, Below.refl _ _⟩
    case round =>
      obtain ⟨k, L, hk, rfl, rfl, hL0, hL1, hok, hbw⟩ := hrel
      have r1 := h.below RTi.stable hbw
      by_cases hlt : k < n
      · obtain ⟨b, o, rfl, hb, hc⟩ := r1.ptr (by omega)
        obtain ⟨e, he⟩ := h.get hlt
        have HE := Lib.hid he
        obtain ⟨c1, A1, n1, d1, c1b, hs1⟩ := hc k e he
        have HL := Lib.hid hs1.len
        have hn1 : n1 ≤ 9223372036854775807 := by rw [← hs1.len]; exact (hx e (List.mem_of_getElem? he)).2
        clear hs1
        clear hc he r1
        go_wp2_with (go_at_call 48; refine (szTile_any _ _ _ _ _ _ hL0 (by omega) (hx _ (List.mem_of_getElem? HE.out)).1 hn1).mono ?_; rintro e' w1 ⟨r, rfl, (rfl | ⟨hr0, hr1, hr2⟩), hb1⟩)
        · go_ret
          exact ⟨_, rfl, .inl rfl, bl_tr hbw hb1⟩
        · go_wp2
          go_roundg (n - (k + 1))
          case measure => omega
          case rel => exact ⟨k + 1, _, by omega, by go_num, rfl, by omega, by omega, fun j e' hj he' => (by
            rcases Nat.lt_succ_iff_lt_or_eq.1 hj with hj | rfl
            · exact hok j e' hj he'
            · obtain rfl := Option.some.inj (HE.out.symm.trans he'); rw [HL.out]; omega), bl_tr hbw hb1⟩
      · obtain rfl : k = n := by omega
        go_wp2
        go_ret
        exact ⟨_, rfl, .inr ⟨hL0, hL1, hle, fun e he => by
          obtain ⟨j, hj, rfl⟩ := List.mem_iff_getElem.1 he
          exact hok j _ (by have := h.len; omega) (List.getElem?_eq_getElem hj)⟩, hbw⟩
  · go_enter Tryz.func23, Tryz.ntmps23
    go_wp2
    go_ret
    exact ⟨_, rfl, .inl rfl, bl_refl _⟩

theorem szTileSet_any (A B : Option Addr) (n c m d : Nat) (gs : List Gl) (ts : List Ti) (left : Int) (w : World) (h : RdSl 2 RGl w A n gs) (k : RdSl 2 RTi w B m ts) (h0 : 0 ≤ left) (h1 : left ≤ 1048576) (hn : n ≤ 9223372036854775807) (hm : m ≤ 9223372036854775807)
    (hx : ∀ e ∈ gs, e.name.size ≤ 9223372036854775807) (hy : ∀ e ∈ ts, e.name.size ≤ 9223372036854775807 ∧ e.sides.length ≤ 9223372036854775807) :
    Calls Tryz.prog 5 #[.agg #[.slice A n c, .slice B m d], .int .i64 left] w (SzRes w left (((n : Int) ≤ left ∧ ∀ e ∈ gs, (e.name.size : Int) ≤ left) ∧ ((m : Int) ≤ left ∧ ∀ e ∈ ts, (e.name.size : Int) ≤ left ∧ (e.sides.length : Int) ≤ left))) := by
  have hb0 : ∀ o1, Below w.heap.size w (w.alloc o1) := fun o1 => bl_al (bl_refl _) _
  go_enter Tryz.func5, Tryz.ntmps5
  go_wp2_with (go_at_call 22; refine (szGlueS_any _ _ _ gs _ _ (h.below RGl.stable (hb0 _)) h0 h1 hn hx).mono ?_; rintro e w1 ⟨r, rfl, (rfl | ⟨hr0, hr1, hr2⟩), hb1⟩; all_goals (obtain ⟨cb1, fb1, sb1, tb1⟩ := bcell hb1; have bb1 := sb1 w.heap.size (by go_simp)))
  · go_ret
    exact ⟨_, rfl, .inl rfl, bl_tr (bl_al (bl_refl _) _) hb1⟩
  · have HR := Lib.hid hr2
    clear hr2
    go_wp2_with (go_at_call 23; refine (szTileS_any _ _ _ ts _ _ (k.below RTi.stable (bl_tr (hb0 _) hb1)) hr0 (by omega) hm hy).mono ?_; rintro e w2 ⟨r2, rfl, (rfl | ⟨hq0, hq1, hq2⟩), hb2⟩)
    · go_ret
      exact ⟨_, rfl, .inl rfl, bl_tr (bl_tr (bl_al (bl_refl _) _) hb1) hb2⟩
    · have HQ := Lib.hid hq2
      clear hq2
      go_wp2
      go_ret
      exact ⟨_, rfl, .inr ⟨hq0, by omega, HR.out, by have := HQ.out.1; omega, fun e he => by have := HQ.out.2 e he; omega⟩, bl_tr (bl_tr (bl_al (bl_refl _) _) hb1) hb2⟩
end Go.Proofs.YthieodccakphiaaGreat
