/- Walks: the harness' counting of signal sets and cells (printed by gen_sg.py). -/
import Derived.Test.YtbipnnjkddffbaaHSz
import Derived.Test.YtbipnnjkddffbaaSg1
namespace Go.Proofs.Ytbipnnjkddffbaa
open Go.RowKit
set_option linter.unusedSimpArgs false
set_option linter.unusedVariables false
attribute [local go_sem] BelowBy.cell BelowBy.cell_drew stillUpon givesUpon
theorem szBoolS_any (A : Option Addr) (n c : Nat) (left : Int) (w : World) (h0 : 0 ≤ left) (h1 : left ≤ 1048576) (hs : n ≤ 9223372036854775807) :
    Calls Try.prog 59 #[.slice A n c, .int .i64 left] w (SzRes w left ((n : Int) ≤ left)) := by
  by_cases h : (n : Int) ≤ left
  · go_enter Try.func59, Try.ntmps59
    go_wp2
    go_ret
    exact ⟨_, rfl, .inr ⟨by omega, by omega, h⟩, bl_refl _⟩
  · go_enter Try.func59, Try.ntmps59
    go_wp2
    go_ret
    exact ⟨_, rfl, .inl rfl, bl_refl _⟩
theorem szFireS_any (A : Option Addr) (n c : Nat) (left : Int) (w : World) (h0 : 0 ≤ left) (h1 : left ≤ 1048576) (hs : n ≤ 9223372036854775807) :
    Calls Try.prog 108 #[.slice A n c, .int .i64 left] w (SzRes w left ((n : Int) ≤ left)) := by
  by_cases h : (n : Int) ≤ left
  · go_enter Try.func108, Try.ntmps108
    go_wp2
    go_ret
    exact ⟨_, rfl, .inr ⟨by omega, by omega, h⟩, bl_refl _⟩
  · go_enter Try.func108, Try.ntmps108
    go_wp2
    go_ret
    exact ⟨_, rfl, .inl rfl, bl_refl _⟩
theorem szSignalTile_any (A : Option Addr) (n c : Nat) (B : Option Addr) (m d : Nat) (C : Option Addr) (k ck : Nat) (x : Sti) (left : Int) (w : World) (h0 : 0 ≤ left) (h1 : left ≤ 1048576) (hs : x.name.size ≤ 9223372036854775807) (hn : n ≤ 9223372036854775807) (hm : m ≤ 9223372036854775807) (hk : k ≤ 9223372036854775807) :
    Calls Try.prog 58 #[.agg #[.string x.name, .slice A n c, .slice B m d, .slice C k ck], .int .i64 left] w (SzRes w left ((x.name.size : Int) ≤ left ∧ (n : Int) ≤ left ∧ (m : Int) ≤ left ∧ (k : Int) ≤ left)) := by
  by_cases h : (x.name.size : Int) ≤ left
  rotate_left
  · go_enter Try.func58, Try.ntmps58
    go_wp2
    go_ret
    exact ⟨_, rfl, .inl rfl, bl_al (bl_refl _) _⟩
  go_enter Try.func58, Try.ntmps58
  go_wp2_with fail
  refine (szInt64S_any _ _ _ _ _ (by omega) (by omega) hn).mono ?_
  rintro e w1 ⟨r1, rfl, (rfl | ⟨a1, b1, c1_⟩), hb1⟩
  · go_wp2
    go_ret
    exact ⟨_, rfl, .inl rfl, bl_tr (bl_al (bl_refl _) _) hb1⟩
  have hw1 := bl_tr (bl_al (bl_refl _) _) hb1
  obtain ⟨ch1, fh1, sh1, th1⟩ := bcell hb1; (have s10 := sh1 w.heap.size (by go_simp))
  go_wp2_with fail
  refine (szBoolS_any _ _ _ _ _ (by omega) (by omega) hm).mono ?_
  rintro e w2 ⟨r2, rfl, (rfl | ⟨a2, b2, c2_⟩), hb2⟩
  · go_wp2
    go_ret
    exact ⟨_, rfl, .inl rfl, bl_tr hw1 hb2⟩
  have hw2 := bl_tr hw1 hb2
  obtain ⟨ch2, fh2, sh2, th2⟩ := bcell hb2; (have s20 := sh2 w.heap.size (by go_simp))
  go_wp2_with fail
  refine (szFireS_any _ _ _ _ _ (by omega) (by omega) hk).mono ?_
  rintro e w3 ⟨r3, rfl, (rfl | ⟨a3, b3, c3_⟩), hb3⟩
  · go_wp2
    go_ret
    exact ⟨_, rfl, .inl rfl, bl_tr hw2 hb3⟩
  have hw3 := bl_tr hw2 hb3
  obtain ⟨ch3, fh3, sh3, th3⟩ := bcell hb3; (have s30 := sh3 w.heap.size (by go_simp))
  go_wp2_with fail
  go_ret
  exact ⟨_, rfl, .inr ⟨by omega, by omega, h, by omega, by omega, by omega⟩, hw3⟩
theorem szSignalCell_any (A : Option Addr) (n c : Nat) (B : Option Addr) (m d : Nat) (C : Option Addr) (k ck : Nat) (x : Sc) (left : Int) (w : World) (h0 : 0 ≤ left) (h1 : left ≤ 1048576) (hn : n ≤ 9223372036854775807) (hm : m ≤ 9223372036854775807) (hk : k ≤ 9223372036854775807) :
    Calls Try.prog 26 #[.agg #[.int .i64 x.x, .int .i64 x.y, .int .i64 x.t, .slice A n c, .slice B m d, .slice C k ck], .int .i64 left] w (SzRes w left ((n : Int) ≤ left ∧ (m : Int) ≤ left ∧ (k : Int) ≤ left)) := by
  go_enter Try.func26, Try.ntmps26
  go_wp2_with fail
  refine (szBoolS_any _ _ _ _ _ (by omega) (by omega) hn).mono ?_
  rintro e w1 ⟨r1, rfl, (rfl | ⟨a1, b1, c1_⟩), hb1⟩
  · go_wp2
    go_ret
    exact ⟨_, rfl, .inl rfl, bl_tr (bl_al (bl_refl _) _) hb1⟩
  have hw1 := bl_tr (bl_al (bl_refl _) _) hb1
  obtain ⟨ch1, fh1, sh1, th1⟩ := bcell hb1; (have s10 := sh1 w.heap.size (by go_simp))
  go_wp2_with fail
  refine (szBoolS_any _ _ _ _ _ (by omega) (by omega) hm).mono ?_
  rintro e w2 ⟨r2, rfl, (rfl | ⟨a2, b2, c2_⟩), hb2⟩
  · go_wp2
    go_ret
    exact ⟨_, rfl, .inl rfl, bl_tr hw1 hb2⟩
  have hw2 := bl_tr hw1 hb2
  obtain ⟨ch2, fh2, sh2, th2⟩ := bcell hb2; (have s20 := sh2 w.heap.size (by go_simp))
  go_wp2_with fail
  refine (szBoolS_any _ _ _ _ _ (by omega) (by omega) hk).mono ?_
  rintro e w3 ⟨r3, rfl, (rfl | ⟨a3, b3, c3_⟩), hb3⟩
  · go_wp2
    go_ret
    exact ⟨_, rfl, .inl rfl, bl_tr hw2 hb3⟩
  have hw3 := bl_tr hw2 hb3
  obtain ⟨ch3, fh3, sh3, th3⟩ := bcell hb3; (have s30 := sh3 w.heap.size (by go_simp))
  go_wp2_with fail
  go_ret
  exact ⟨_, rfl, .inr ⟨by omega, by omega, by omega, by omega, by omega⟩, hw3⟩
set_option maxHeartbeats 1000000 in
theorem szSignalTileS_any (A : Option Addr) (n c : Nat) (xs : List Sti) (left : Int) (w : World) (h : RdSl 4 RSti w A n xs) (h0 : 0 ≤ left) (h1 : left ≤ 1048576) (hn : n ≤ 9223372036854775807) (hx : ∀ e ∈ xs, e.name.size ≤ 9223372036854775807 ∧ e.sides.length ≤ 9223372036854775807 ∧ e.on.length ≤ 9223372036854775807 ∧ e.fires.length ≤ 9223372036854775807) :
    Calls Try.prog 25 #[.slice A n c, .int .i64 left] w (SzRes w left ((n : Int) ≤ left ∧ ∀ e ∈ xs, (e.name.size : Int) ≤ left ∧ (e.sides.length : Int) ≤ left ∧ (e.on.length : Int) ≤ left ∧ (e.fires.length : Int) ≤ left)) := by
  by_cases hle : (n : Int) ≤ left
  · go_enter Try.func25, Try.ntmps25
    go_wp2
    go_loopg [1, 5] n (fun g l i wr => ∃ (k : Nat) (L : Int), k + g = n ∧ i = .int .i64 k ∧ l = .int .i64 L ∧ 0 ≤ L ∧ L ≤ left ∧ (∀ j e, j < k → xs[j]? = some e → (e.name.size : Int) ≤ left ∧ (e.sides.length : Int) ≤ left ∧ (e.on.length : Int) ≤ left ∧ (e.fires.length : Int) ≤ left) ∧ Below w.heap.size w wr)
    case atStart => exact ⟨0, _, by omega, rfl, rfl, by omega, by omega, fun j e hj => by omega, Below.refl _ _⟩
    case round =>
      obtain ⟨k, L, hk, rfl, rfl, hL0, hL1, hok, hbw⟩ := hrel
      have r1 := h.below RSti.stable hbw
      by_cases hlt : k < n
      · obtain ⟨b, o, rfl, hb, hc⟩ := r1.ptr (by omega)
        obtain ⟨e, he⟩ := h.get hlt
        have HE := Lib.hid he
        obtain ⟨g0, ⟨A1, n1, c1, p1, s1⟩, ⟨A2, n2, c2, p2, s2⟩, ⟨A3, n3, c3, p3, s3⟩⟩ := hc k e he
        obtain ⟨l0, l1, l2, l3⟩ := hx e (List.mem_of_getElem? he)
        have HL1 := Lib.hid s1.len
        have hn1 : n1 ≤ 9223372036854775807 := by rw [← s1.len]; exact l1
        have HL2 := Lib.hid s2.len
        have hn2 : n2 ≤ 9223372036854775807 := by rw [← s2.len]; exact l2
        have HL3 := Lib.hid s3.len
        have hn3 : n3 ≤ 9223372036854775807 := by rw [← s3.len]; exact l3
        clear s1 s2 s3 l1 l2 l3
        clear hc he r1
        go_wp2_with (go_at_call 58; refine (szSignalTile_any _ _ _ _ _ _ _ _ _ e _ _ hL0 (by omega) l0 hn1 hn2 hn3).mono ?_; rintro e' w1 ⟨r, rfl, (rfl | ⟨hr0, hr1, hr2⟩), hb1⟩)
        · go_ret
          exact ⟨_, rfl, .inl rfl, bl_tr hbw hb1⟩
        · go_wp2
          go_roundg (n - (k + 1))
          case measure => omega
          case rel => exact ⟨k + 1, _, by omega, by go_num, rfl, by omega, by omega, fun j e' hj he' => (by
            rcases Nat.lt_succ_iff_lt_or_eq.1 hj with hj | rfl
            · exact hok j e' hj he'
            · obtain rfl := Option.some.inj (HE.out.symm.trans he'); rw [HL1.out, HL2.out, HL3.out]; omega), bl_tr hbw hb1⟩
      · obtain rfl : k = n := by omega
        go_wp2
        go_ret
        exact ⟨_, rfl, .inr ⟨hL0, hL1, hle, fun e he => by
          obtain ⟨j, hj, rfl⟩ := List.mem_iff_getElem.1 he
          exact hok j _ (by have := h.len; omega) (List.getElem?_eq_getElem hj)⟩, hbw⟩
  · go_enter Try.func25, Try.ntmps25
    go_wp2
    go_ret
    exact ⟨_, rfl, .inl rfl, bl_refl _⟩
set_option maxHeartbeats 1000000 in
theorem szSignalCellS_any (A : Option Addr) (n c : Nat) (xs : List Sc) (left : Int) (w : World) (h : RdSl 6 RSc w A n xs) (h0 : 0 ≤ left) (h1 : left ≤ 1048576) (hn : n ≤ 9223372036854775807) (hx : ∀ e ∈ xs, e.on.length ≤ 9223372036854775807 ∧ e.bound.length ≤ 9223372036854775807 ∧ e.fired.length ≤ 9223372036854775807) :
    Calls Try.prog 6 #[.slice A n c, .int .i64 left] w (SzRes w left ((n : Int) ≤ left ∧ ∀ e ∈ xs, (e.on.length : Int) ≤ left ∧ (e.bound.length : Int) ≤ left ∧ (e.fired.length : Int) ≤ left)) := by
  by_cases hle : (n : Int) ≤ left
  · go_enter Try.func6, Try.ntmps6
    go_wp2
    go_loopg [1, 5] n (fun g l i wr => ∃ (k : Nat) (L : Int), k + g = n ∧ i = .int .i64 k ∧ l = .int .i64 L ∧ 0 ≤ L ∧ L ≤ left ∧ (∀ j e, j < k → xs[j]? = some e → (e.on.length : Int) ≤ left ∧ (e.bound.length : Int) ≤ left ∧ (e.fired.length : Int) ≤ left) ∧ Below w.heap.size w wr)
    case atStart => exact ⟨0, _, by omega, rfl, rfl, by omega, by omega, fun j e hj => by omega, Below.refl _ _⟩
    case round =>
      obtain ⟨k, L, hk, rfl, rfl, hL0, hL1, hok, hbw⟩ := hrel
      have r1 := h.below RSc.stable hbw
      by_cases hlt : k < n
      · obtain ⟨b, o, rfl, hb, hc⟩ := r1.ptr (by omega)
        obtain ⟨e, he⟩ := h.get hlt
        have HE := Lib.hid he
        obtain ⟨g0, g1, g2, ⟨A1, n1, c1, p1, s1⟩, ⟨A2, n2, c2, p2, s2⟩, ⟨A3, n3, c3, p3, s3⟩⟩ := hc k e he
        obtain ⟨l1, l2, l3⟩ := hx e (List.mem_of_getElem? he)
        have HL1 := Lib.hid s1.len
        have hn1 : n1 ≤ 9223372036854775807 := by rw [← s1.len]; exact l1
        have HL2 := Lib.hid s2.len
        have hn2 : n2 ≤ 9223372036854775807 := by rw [← s2.len]; exact l2
        have HL3 := Lib.hid s3.len
        have hn3 : n3 ≤ 9223372036854775807 := by rw [← s3.len]; exact l3
        clear s1 s2 s3 l1 l2 l3
        clear hc he r1
        go_wp2_with (go_at_call 26; refine (szSignalCell_any _ _ _ _ _ _ _ _ _ e _ _ hL0 (by omega) hn1 hn2 hn3).mono ?_; rintro e' w1 ⟨r, rfl, (rfl | ⟨hr0, hr1, hr2⟩), hb1⟩)
        · go_ret
          exact ⟨_, rfl, .inl rfl, bl_tr hbw hb1⟩
        · go_wp2
          go_roundg (n - (k + 1))
          case measure => omega
          case rel => exact ⟨k + 1, _, by omega, by go_num, rfl, by omega, by omega, fun j e' hj he' => (by
            rcases Nat.lt_succ_iff_lt_or_eq.1 hj with hj | rfl
            · exact hok j e' hj he'
            · obtain rfl := Option.some.inj (HE.out.symm.trans he'); rw [HL1.out, HL2.out, HL3.out]; omega), bl_tr hbw hb1⟩
      · obtain rfl : k = n := by omega
        go_wp2
        go_ret
        exact ⟨_, rfl, .inr ⟨hL0, hL1, hle, fun e he => by
          obtain ⟨j, hj, rfl⟩ := List.mem_iff_getElem.1 he
          exact hok j _ (by have := h.len; omega) (List.getElem?_eq_getElem hj)⟩, hbw⟩
  · go_enter Try.func6, Try.ntmps6
    go_wp2
    go_ret
    exact ⟨_, rfl, .inl rfl, bl_refl _⟩
theorem szSignalSet_any (A B : Option Addr) (n c m d : Nat) (gs : List Gl) (ts : List Sti) (left : Int) (w : World) (h : RdSl 2 RGl w A n gs) (k : RdSl 4 RSti w B m ts) (h0 : 0 ≤ left) (h1 : left ≤ 1048576) (hn : n ≤ 9223372036854775807) (hm : m ≤ 9223372036854775807)
    (hx : ∀ e ∈ gs, e.name.size ≤ 9223372036854775807) (hy : ∀ e ∈ ts, e.name.size ≤ 9223372036854775807 ∧ e.sides.length ≤ 9223372036854775807 ∧ e.on.length ≤ 9223372036854775807 ∧ e.fires.length ≤ 9223372036854775807) :
    Calls Try.prog 5 #[.agg #[.slice A n c, .slice B m d], .int .i64 left] w (SzRes w left (((n : Int) ≤ left ∧ ∀ e ∈ gs, (e.name.size : Int) ≤ left) ∧ ((m : Int) ≤ left ∧ ∀ e ∈ ts, (e.name.size : Int) ≤ left ∧ (e.sides.length : Int) ≤ left ∧ (e.on.length : Int) ≤ left ∧ (e.fires.length : Int) ≤ left))) := by
  have hb0 : ∀ o1, Below w.heap.size w (w.alloc o1) := fun o1 => bl_al (bl_refl _) _
  go_enter Try.func5, Try.ntmps5
  go_wp2_with (go_at_call 24; refine (szGlueS_any _ _ _ gs _ _ (h.below RGl.stable (hb0 _)) h0 h1 hn hx).mono ?_; rintro e w1 ⟨r, rfl, (rfl | ⟨hr0, hr1, hr2⟩), hb1⟩; all_goals (obtain ⟨cb1, fb1, sb1, tb1⟩ := bcell hb1; have bb1 := sb1 w.heap.size (by go_simp)))
  · go_ret
    exact ⟨_, rfl, .inl rfl, bl_tr (bl_al (bl_refl _) _) hb1⟩
  · have HR := Lib.hid hr2
    clear hr2
    go_wp2_with (go_at_call 25; refine (szSignalTileS_any _ _ _ ts _ _ (k.below RSti.stable (bl_tr (hb0 _) hb1)) hr0 (by omega) hm hy).mono ?_; rintro e w2 ⟨r2, rfl, (rfl | ⟨hq0, hq1, hq2⟩), hb2⟩)
    · go_ret
      exact ⟨_, rfl, .inl rfl, bl_tr (bl_tr (bl_al (bl_refl _) _) hb1) hb2⟩
    · have HQ := Lib.hid hq2
      clear hq2
      go_wp2
      go_ret
      exact ⟨_, rfl, .inr ⟨hq0, by omega, HR.out, by have := HQ.out.1; omega, fun e he => by have := HQ.out.2 e he; omega⟩, bl_tr (bl_tr (bl_al (bl_refl _) _) hb1) hb2⟩
end Go.Proofs.Ytbipnnjkddffbaa
