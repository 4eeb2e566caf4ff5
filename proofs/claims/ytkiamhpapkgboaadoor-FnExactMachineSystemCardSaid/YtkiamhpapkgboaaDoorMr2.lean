/- Walks: ValidConfig of the program; the reference's tests of machines and configurations (printed by gen_mr2.py). -/
import Derived.Test.YtkiamhpapkgboaaDoorMr1
namespace Go.Proofs.YtkiamhpapkgboaaDoor
open Go.RowKit Go.Shelf
set_option linter.unusedSimpArgs false
set_option linter.unusedVariables false
attribute [local go_sem] BelowBy.cell BelowBy.cell_drew stillUpon givesUpon

theorem below1_any (p : Nat) (x S : Int) (w : World) (c0 : w.cell? ⟨p, 0, none⟩ = some (.int .i64 S)) (hS : 1 ≤ S ∧ S ≤ 4) :
    Calls Tryd.prog 70 #[.int .i64 x, .pointer (some ⟨p, 0, none⟩)] w fun e w' => e = .returned (.bool (!inB x 0 (S - 1))) ∧ w = w' := by
  have ws : IntKind.i64.wrap (S - 1) = S - 1 := wrapN (by omega) (by omega)
  go_enter Tryd.func70, Tryd.ntmps70
  go_wp2_with (go_at_call 48; refine (within_any _ _ _ _).mono ?_; rintro e _ ⟨rfl, rfl⟩)
  go_ret
  exact ⟨rfl, rfl⟩
set_option maxRecDepth 100000 in
theorem IndexFuncB_any (p : Nat) (S : Int) (A : Option Addr) (n c : Nat) (xs : List Int) (w : World) (c0 : w.cell? ⟨p, 0, none⟩ = some (.int .i64 S)) (hS : 1 ≤ S ∧ S ≤ 4) (hx : RdSl 1 RInt w A n xs) (hn : n ≤ 9223372036854775807) :
    Calls Tryd.prog 81 #[.slice A n c, .func (.func 70) #[] #[.pointer (some ⟨p, 0, none⟩)]] w (FirstM w n (symB S xs)) := by
  go_enter Tryd.func81, Tryd.ntmps81
  go_wp2
  go_loopg [8] n (fun r x wr => ∃ k : Nat, k + r = n ∧ x = .int .i64 k ∧ (∀ j, j < k → symB S xs j = true) ∧ w = wr)
  case atStart => exact ⟨0, by omega, rfl, fun j hj => by omega, rfl⟩
  case round =>
    obtain ⟨k, hk, rfl, hok, rfl⟩ := hrel
    have hok := Lib.hid hok
    by_cases hkn : k < n
    · obtain ⟨b, o, rfl, hb, hc⟩ := hx.ptr (by omega)
      obtain ⟨v, hv⟩ := hx.get hkn
      have e0 := hc k v hv
      simp only [RInt, Nat.mul_one] at e0
      have HS := Lib.hid (symB_eq (S := S) hv)
      clear hc hv hx
      cases hv4 : inB v 0 (S - 1)
      · go_wp2_with (go_at_call 70; refine (below1_any p _ S _ c0 hS).mono ?_; rintro e _ ⟨rfl, rfl⟩)
        go_ret
        exact ⟨_, rfl, by rw [allB_false hkn (by rw [HS.out, hv4])]; simp, by exact bel_⟩
      · go_wp2_with (go_at_call 70; refine (below1_any p _ S _ c0 hS).mono ?_; rintro e _ ⟨rfl, rfl⟩)
        go_roundg (n - (k + 1))
        case measure => omega
        case rel => exact ⟨k + 1, by omega, by go_num, fun j hj => (by rcases Nat.lt_succ_iff_lt_or_eq.1 hj with hj | rfl; exact hok.out j hj; rw [HS.out, hv4]), rfl⟩
    · obtain rfl : k = n := by omega
      go_wp2
      go_ret
      exact ⟨_, rfl, by rw [allB_true hok.out]; simp, by exact bel_⟩
theorem ContainsFuncB_any (p : Nat) (S : Int) (A : Option Addr) (n c : Nat) (xs : List Int) (w : World) (c0 : w.cell? ⟨p, 0, none⟩ = some (.int .i64 S)) (hS : 1 ≤ S ∧ S ≤ 4) (hx : RdSl 1 RInt w A n xs) (hn : n ≤ 9223372036854775807) :
    Calls Tryd.prog 69 #[.slice A n c, .func (.func 70) #[] #[.pointer (some ⟨p, 0, none⟩)]] w fun e w' => e = .returned (.bool (!allB n (symB S xs))) ∧ Below w.heap.size w w' := by
  go_enter Tryd.func69, Tryd.ntmps69
  go_wp2_with (go_at_call 81; refine (IndexFuncB_any p S _ _ _ xs _ c0 hS hx hn).mono ?_; rintro e w1 ⟨r, rfl, hr, hb1⟩)
  go_ret
  exact ⟨rfl, hb1⟩
theorem below_any (S : Int) (A : Option Addr) (n c : Nat) (xs : List Int) (w : World) (hS : 1 ≤ S ∧ S ≤ 4) (hx : RdSl 1 RInt w A n xs) (hn : n ≤ 9223372036854775807) (b : Bool) (hb : allB n (symB S xs) = b) :
    Calls Tryd.prog 49 #[.slice A n c, .int .i64 S] w fun e w' => e = .returned (.bool b) ∧ Below w.heap.size w w' := by
  rw [← hb]
  clear hb
  have hxH := Lib.hid hx
  clear hx
  go_enter Tryd.func49, Tryd.ntmps49
  go_wp2_with (go_at_call 69; refine (ContainsFuncB_any w.heap.size S _ _ _ xs (w.alloc (Obj.cells #[.int .i64 S] 2)) (by go_simp) hS (hxH.out.below RInt.stable (bl_al (bl_refl _) _)) hn).mono ?_; rintro e w1 ⟨rfl, hb1⟩)
  go_ret
  exact ⟨by simp, (bl_al (bl_refl w) _).trans (hb1.mono (by simp))⟩
set_option maxRecDepth 100000 in
set_option maxHeartbeats 4000000 in
theorem ValidConfig_any (Q S h s : Int) (MA TA : Option Addr) (n mc m tc : Nat) (ms : List Mvm) (l : List Int) (w : World) (hm : RdSl 5 RMv w MA n ms) (ht : RdSl 1 RInt w TA m l) (hn : n ≤ 1073741824) (hmn : m ≤ 1073741824) (b : Bool) (hb : (mcB Q S ms && cfB Q S l h s) = b) :
    Calls Tryd.prog 29 #[.agg #[.int .i64 Q, .int .i64 S, .slice MA n mc], .agg #[.slice TA m tc, .int .i64 h, .int .i64 s]] w fun e w' => e = .returned (.bool b) ∧ Below w.heap.size w w' := by
  have hl := ht.len
  have hB := Lib.hid (show b = (mcB Q S ms && (inB (m : Int) 1 12 && (allB m (symB S l) && (inB h 0 ((m : Int) - 1) && inB s 0 (Q - 1))))) by rw [← hb, ← hl]; rfl)
  have hmH := Lib.hid hm
  have htH := Lib.hid ht
  clear hb hm ht hl
  obtain ⟨vm, hvm⟩ : ∃ vm, mcB Q S ms = vm := ⟨_, rfl⟩
  obtain ⟨vb, hvb⟩ : ∃ vb, allB m (symB S l) = vb := ⟨_, rfl⟩
  have hvmH := Lib.hid hvm
  have hvbH := Lib.hid hvb
  cases vm
  · have hr := Lib.hid (show false = b by rw [hB.out, hvm]; rfl)
    clear hvm hvb
    have hSa : 1 ≤ S ∨ True := .inr trivial
    go_enter Tryd.func29, Tryd.ntmps29
    go_wp2_with (first
      | (go_at_call 47; refine (ValidMachine_any Q S MA n mc ms _ (hmH.out.below RMv.stable (bl_al (bl_al (bl_refl _) _) _)) hn _ hvmH.out).mono ?_; rintro e w1 ⟨rfl, hb1⟩; obtain ⟨chb1, fhb1, shb1, thb1⟩ := bcell hb1; have b1 := shb1 (w.heap.size) (by go_simp); have b2 := shb1 (w.heap.size + 1) (by go_simp); have hk1 := Lib.hid ((bl_al (bl_al (bl_refl w) (Obj.cells #[.int .i64 Q, .int .i64 S, .slice MA n mc] 43)) (Obj.cells #[.slice TA m tc, .int .i64 h, .int .i64 s] 45)).trans (hb1.mono (by simp; omega))); clear hb1)
      | (go_at_call 49; refine (below_any S TA m tc l _ ⟨by omega, by omega⟩ (htH.out.below RInt.stable hk1.out) (by omega) _ hvbH.out).mono ?_; rintro e w2 ⟨rfl, hb2⟩; obtain ⟨chb2, fhb2, shb2, thb2⟩ := bcell hb2; have b3 := shb2 (w.heap.size) b1; have b4 := shb2 (w.heap.size + 1) b2; have hk2 := Lib.hid (hk1.out.trans (hb2.mono hk1.out.size)); clear hb2)
      | (go_at_call 48; refine (within_any _ _ _ _).mono ?_; rintro e _ ⟨rfl, rfl⟩)
      | (go_at_call 50; refine (isIndex_any _ _ _ (by omega) (by omega)).mono ?_; rintro e _ ⟨rfl, rfl⟩))
    go_ret
    exact ⟨ret_bool hr.out, hk1.out⟩
  have hQS : (1 ≤ Q ∧ Q ≤ 5) ∧ (1 ≤ S ∧ S ≤ 4) := by
    unfold mcB at hvm
    simp only [Bool.and_eq_true, inB_true] at hvm
    exact ⟨hvm.1, hvm.2.1⟩
  have hSa := hQS.2.1
  have hSb := hQS.2.2
  have wq : IntKind.i64.wrap (Q - 1) = Q - 1 := wrapN (by omega) (by omega)
  cases h2 : inB (m : Int) 1 12
  · have hr := Lib.hid (show false = b by rw [hB.out, hvm, h2]; rfl)
    clear hvm hvb
    go_enter Tryd.func29, Tryd.ntmps29
    go_wp2_with (first
      | (go_at_call 47; refine (ValidMachine_any Q S MA n mc ms _ (hmH.out.below RMv.stable (bl_al (bl_al (bl_refl _) _) _)) hn _ hvmH.out).mono ?_; rintro e w1 ⟨rfl, hb1⟩; obtain ⟨chb1, fhb1, shb1, thb1⟩ := bcell hb1; have b1 := shb1 (w.heap.size) (by go_simp); have b2 := shb1 (w.heap.size + 1) (by go_simp); have hk1 := Lib.hid ((bl_al (bl_al (bl_refl w) (Obj.cells #[.int .i64 Q, .int .i64 S, .slice MA n mc] 43)) (Obj.cells #[.slice TA m tc, .int .i64 h, .int .i64 s] 45)).trans (hb1.mono (by simp; omega))); clear hb1)
      | (go_at_call 49; refine (below_any S TA m tc l _ ⟨hSa, hSb⟩ (htH.out.below RInt.stable hk1.out) (by omega) _ hvbH.out).mono ?_; rintro e w2 ⟨rfl, hb2⟩; obtain ⟨chb2, fhb2, shb2, thb2⟩ := bcell hb2; have b3 := shb2 (w.heap.size) b1; have b4 := shb2 (w.heap.size + 1) b2; have hk2 := Lib.hid (hk1.out.trans (hb2.mono hk1.out.size)); clear hb2)
      | (go_at_call 48; refine (within_any _ _ _ _).mono ?_; rintro e _ ⟨rfl, rfl⟩)
      | (go_at_call 50; refine (isIndex_any _ _ _ (by omega) (by omega)).mono ?_; rintro e _ ⟨rfl, rfl⟩))
    go_ret
    exact ⟨ret_bool hr.out, hk1.out⟩
  cases vb
  · have hr := Lib.hid (show false = b by rw [hB.out, hvm, h2, hvb]; rfl)
    clear hvm hvb
    go_enter Tryd.func29, Tryd.ntmps29
    go_wp2_with (first
      | (go_at_call 47; refine (ValidMachine_any Q S MA n mc ms _ (hmH.out.below RMv.stable (bl_al (bl_al (bl_refl _) _) _)) hn _ hvmH.out).mono ?_; rintro e w1 ⟨rfl, hb1⟩; obtain ⟨chb1, fhb1, shb1, thb1⟩ := bcell hb1; have b1 := shb1 (w.heap.size) (by go_simp); have b2 := shb1 (w.heap.size + 1) (by go_simp); have hk1 := Lib.hid ((bl_al (bl_al (bl_refl w) (Obj.cells #[.int .i64 Q, .int .i64 S, .slice MA n mc] 43)) (Obj.cells #[.slice TA m tc, .int .i64 h, .int .i64 s] 45)).trans (hb1.mono (by simp; omega))); clear hb1)
      | (go_at_call 49; refine (below_any S TA m tc l _ ⟨hSa, hSb⟩ (htH.out.below RInt.stable hk1.out) (by omega) _ hvbH.out).mono ?_; rintro e w2 ⟨rfl, hb2⟩; obtain ⟨chb2, fhb2, shb2, thb2⟩ := bcell hb2; have b3 := shb2 (w.heap.size) b1; have b4 := shb2 (w.heap.size + 1) b2; have hk2 := Lib.hid (hk1.out.trans (hb2.mono hk1.out.size)); clear hb2)
      | (go_at_call 48; refine (within_any _ _ _ _).mono ?_; rintro e _ ⟨rfl, rfl⟩)
      | (go_at_call 50; refine (isIndex_any _ _ _ (by omega) (by omega)).mono ?_; rintro e _ ⟨rfl, rfl⟩))
    go_ret
    exact ⟨ret_bool hr.out, hk2.out⟩
  cases h4 : inB h 0 ((m : Int) - 1)
  · have hr := Lib.hid (show false = b by rw [hB.out, hvm, h2, hvb, h4]; rfl)
    clear hvm hvb
    go_enter Tryd.func29, Tryd.ntmps29
    go_wp2_with (first
      | (go_at_call 47; refine (ValidMachine_any Q S MA n mc ms _ (hmH.out.below RMv.stable (bl_al (bl_al (bl_refl _) _) _)) hn _ hvmH.out).mono ?_; rintro e w1 ⟨rfl, hb1⟩; obtain ⟨chb1, fhb1, shb1, thb1⟩ := bcell hb1; have b1 := shb1 (w.heap.size) (by go_simp); have b2 := shb1 (w.heap.size + 1) (by go_simp); have hk1 := Lib.hid ((bl_al (bl_al (bl_refl w) (Obj.cells #[.int .i64 Q, .int .i64 S, .slice MA n mc] 43)) (Obj.cells #[.slice TA m tc, .int .i64 h, .int .i64 s] 45)).trans (hb1.mono (by simp; omega))); clear hb1)
      | (go_at_call 49; refine (below_any S TA m tc l _ ⟨hSa, hSb⟩ (htH.out.below RInt.stable hk1.out) (by omega) _ hvbH.out).mono ?_; rintro e w2 ⟨rfl, hb2⟩; obtain ⟨chb2, fhb2, shb2, thb2⟩ := bcell hb2; have b3 := shb2 (w.heap.size) b1; have b4 := shb2 (w.heap.size + 1) b2; have hk2 := Lib.hid (hk1.out.trans (hb2.mono hk1.out.size)); clear hb2)
      | (go_at_call 48; refine (within_any _ _ _ _).mono ?_; rintro e _ ⟨rfl, rfl⟩)
      | (go_at_call 50; refine (isIndex_any _ _ _ (by omega) (by omega)).mono ?_; rintro e _ ⟨rfl, rfl⟩))
    go_ret
    exact ⟨ret_bool hr.out, hk2.out⟩
  cases h5 : inB s 0 (Q - 1)
  · have hr := Lib.hid (show false = b by rw [hB.out, hvm, h2, hvb, h4, h5]; rfl)
    clear hvm hvb
    go_enter Tryd.func29, Tryd.ntmps29
    go_wp2_with (first
      | (go_at_call 47; refine (ValidMachine_any Q S MA n mc ms _ (hmH.out.below RMv.stable (bl_al (bl_al (bl_refl _) _) _)) hn _ hvmH.out).mono ?_; rintro e w1 ⟨rfl, hb1⟩; obtain ⟨chb1, fhb1, shb1, thb1⟩ := bcell hb1; have b1 := shb1 (w.heap.size) (by go_simp); have b2 := shb1 (w.heap.size + 1) (by go_simp); have hk1 := Lib.hid ((bl_al (bl_al (bl_refl w) (Obj.cells #[.int .i64 Q, .int .i64 S, .slice MA n mc] 43)) (Obj.cells #[.slice TA m tc, .int .i64 h, .int .i64 s] 45)).trans (hb1.mono (by simp; omega))); clear hb1)
      | (go_at_call 49; refine (below_any S TA m tc l _ ⟨hSa, hSb⟩ (htH.out.below RInt.stable hk1.out) (by omega) _ hvbH.out).mono ?_; rintro e w2 ⟨rfl, hb2⟩; obtain ⟨chb2, fhb2, shb2, thb2⟩ := bcell hb2; have b3 := shb2 (w.heap.size) b1; have b4 := shb2 (w.heap.size + 1) b2; have hk2 := Lib.hid (hk1.out.trans (hb2.mono hk1.out.size)); clear hb2)
      | (go_at_call 48; refine (within_any _ _ _ _).mono ?_; rintro e _ ⟨rfl, rfl⟩)
      | (go_at_call 50; refine (isIndex_any _ _ _ (by omega) (by omega)).mono ?_; rintro e _ ⟨rfl, rfl⟩))
    go_ret
    exact ⟨ret_bool hr.out, hk2.out⟩
  have hr := Lib.hid (show true = b by rw [hB.out, hvm, h2, hvb, h4, h5]; rfl)
  clear hvm hvb
  go_enter Tryd.func29, Tryd.ntmps29
  go_wp2_with (first
    | (go_at_call 47; refine (ValidMachine_any Q S MA n mc ms _ (hmH.out.below RMv.stable (bl_al (bl_al (bl_refl _) _) _)) hn _ hvmH.out).mono ?_; rintro e w1 ⟨rfl, hb1⟩; obtain ⟨chb1, fhb1, shb1, thb1⟩ := bcell hb1; have b1 := shb1 (w.heap.size) (by go_simp); have b2 := shb1 (w.heap.size + 1) (by go_simp); have hk1 := Lib.hid ((bl_al (bl_al (bl_refl w) (Obj.cells #[.int .i64 Q, .int .i64 S, .slice MA n mc] 43)) (Obj.cells #[.slice TA m tc, .int .i64 h, .int .i64 s] 45)).trans (hb1.mono (by simp; omega))); clear hb1)
    | (go_at_call 49; refine (below_any S TA m tc l _ ⟨hSa, hSb⟩ (htH.out.below RInt.stable hk1.out) (by omega) _ hvbH.out).mono ?_; rintro e w2 ⟨rfl, hb2⟩; obtain ⟨chb2, fhb2, shb2, thb2⟩ := bcell hb2; have b3 := shb2 (w.heap.size) b1; have b4 := shb2 (w.heap.size + 1) b2; have hk2 := Lib.hid (hk1.out.trans (hb2.mono hk1.out.size)); clear hb2)
    | (go_at_call 48; refine (within_any _ _ _ _).mono ?_; rintro e _ ⟨rfl, rfl⟩)
    | (go_at_call 50; refine (isIndex_any _ _ _ (by omega) (by omega)).mono ?_; rintro e _ ⟨rfl, rfl⟩))
  go_ret
  exact ⟨ret_bool hr.out, hk2.out⟩
/-- a machine in a box -/
structure McAt (w : World) (p : Nat) (Q S : Int) (ms : List Mvm) : Prop where
  lt : p < w.heap.size
  c0 : w.cell? ⟨p, 0, none⟩ = some (.int .i64 Q)
  c1 : w.cell? ⟨p, 1, none⟩ = some (.int .i64 S)
  mv : ∃ A n c, w.cell? ⟨p, 2, none⟩ = some (.slice A n c) ∧ RdSl 5 RMv w A n ms ∧ n ≤ 1073741824
theorem McAt.below {w w' : World} {p : Nat} {Q S : Int} {ms : List Mvm} (h : McAt w p Q S ms) (hb : Below w.heap.size w w') : McAt w' p Q S ms := by
  obtain ⟨A, n, c, h1, h2, h3⟩ := h.mv
  exact ⟨Nat.lt_of_lt_of_le h.lt hb.size, (hb.cell (p := ⟨p, 0, none⟩) h.lt).trans h.c0, (hb.cell (p := ⟨p, 1, none⟩) h.lt).trans h.c1, A, n, c, (hb.cell (p := ⟨p, 2, none⟩) h.lt).trans h1, h2.below RMv.stable hb, h3⟩
structure CfAt (w : World) (p : Nat) (l : List Int) (h s : Int) : Prop where
  lt : p < w.heap.size
  tp : ∃ A n c, w.cell? ⟨p, 0, none⟩ = some (.slice A n c) ∧ RdSl 1 RInt w A n l ∧ n ≤ 1073741824
  c1 : w.cell? ⟨p, 1, none⟩ = some (.int .i64 h)
  c2 : w.cell? ⟨p, 2, none⟩ = some (.int .i64 s)
theorem CfAt.below {w w' : World} {p : Nat} {l : List Int} {h s : Int} (H : CfAt w p l h s) (hb : Below w.heap.size w w') : CfAt w' p l h s := by
  obtain ⟨A, n, c, h1, h2, h3⟩ := H.tp
  exact ⟨Nat.lt_of_lt_of_le H.lt hb.size, ⟨A, n, c, (hb.cell (p := ⟨p, 0, none⟩) H.lt).trans h1, h2.below RInt.stable hb, h3⟩, (hb.cell (p := ⟨p, 1, none⟩) H.lt).trans H.c1, (hb.cell (p := ⟨p, 2, none⟩) H.lt).trans H.c2⟩
theorem findI_hit {ms : List Mvm} {k : Nat} {v : Mvm} {s r : Int} (hv : ms[k]? = some v) (h1 : v.s = s) (h2 : v.r = r) (hn : ∀ (j : Nat) (e : Mvm), j < k → ms[j]? = some e → ¬ (e.s = s ∧ e.r = r)) : findI ms s r = (k : Int) := by
  obtain ⟨hk, he⟩ := List.getElem?_eq_some_iff.1 hv
  have : findM ms s r = some k := by
    unfold findM
    rw [List.findIdx?_eq_some_iff_getElem]
    refine ⟨hk, by rw [he]; simp [h1, h2], fun j hj => ?_⟩
    have := hn j ms[j] hj (List.getElem?_eq_getElem (by omega))
    simpa using this
  unfold findI
  rw [this]
theorem findI_miss {ms : List Mvm} {s r : Int} (hn : ∀ (j : Nat) (e : Mvm), ms[j]? = some e → ¬ (e.s = s ∧ e.r = r)) : findI ms s r = -1 := by
  have : findM ms s r = none := by
    unfold findM
    rw [List.findIdx?_eq_none_iff]
    intro e he
    obtain ⟨j, hj, rfl⟩ := List.mem_iff_getElem.1 he
    have := hn j ms[j] (List.getElem?_eq_getElem hj)
    simpa using this
  unfold findI
  rw [this]
set_option maxRecDepth 100000 in
set_option maxHeartbeats 4000000 in
theorem l17Find_any (p : Nat) (Q S s r : Int) (ms : List Mvm) (w : World) (hM : McAt w p Q S ms) (f : Int) (hf : findI ms s r = f) :
    Calls Tryd.prog 42 #[.pointer (some ⟨p, 0, none⟩), .int .i64 s, .int .i64 r] w fun e w' => e = .returned (.int .i64 f) ∧ w = w' := by
  obtain ⟨A, n, c, c2, hx, hn⟩ := hM.mv
  have lp := hM.lt
  have hl := Lib.hid hx.len
  have hfH := Lib.hid hf
  clear hf hM
  go_enter Tryd.func42, Tryd.ntmps42
  go_wp2
  go_loopg [7] n (fun g i wr => ∃ k : Nat, k + g = n ∧ i = .int .i64 (k : Int) ∧ (∀ (j : Nat) (e : Mvm), j < k → ms[j]? = some e → ¬ (e.s = s ∧ e.r = r)) ∧ w = wr)
  case atStart => exact ⟨0, by omega, rfl, fun j e hj => by omega, rfl⟩
  case round =>
    obtain ⟨k, hk, rfl, hno, rfl⟩ := hrel
    have hno := Lib.hid hno
    by_cases hkn : k < n
    · obtain ⟨b, o, rfl, hb, hc⟩ := hx.ptr (by omega)
      obtain ⟨v, hv⟩ := hx.get hkn
      obtain ⟨e0, e1, e2, e3, e4⟩ := hc k v hv
      have hvH := Lib.hid hv
      obtain ⟨vs, vr, vw, vd, vn⟩ := v
      simp only at e0 e1 e2 e3 e4
      clear hc hv hx
      by_cases h1 : vs = s
      · subst h1
        by_cases h2 : vr = r
        · subst h2
          have hr := Lib.hid (show (k : Int) = f by rw [← hfH.out, findI_hit hvH.out rfl rfl hno.out])
          go_wp2
          go_ret
          exact ⟨ret_int hr.out, rfl⟩
        · have h2b : (vr == r) = false := by simpa using h2
          go_wp2
          go_roundg (n - (k + 1))
          case measure => omega
          case rel => exact ⟨k + 1, by omega, by go_num, fun j e hj he hh => (by
            rcases Nat.lt_succ_iff_lt_or_eq.1 hj with hj | rfl
            · exact hno.out j e hj he hh
            · rw [hvH.out] at he; injection he with he; subst he; exact h2 hh.2), rfl⟩
      · have h1b : (vs == s) = false := by simpa using h1
        go_wp2
        go_roundg (n - (k + 1))
        case measure => omega
        case rel => exact ⟨k + 1, by omega, by go_num, fun j e hj he hh => (by
          rcases Nat.lt_succ_iff_lt_or_eq.1 hj with hj | rfl
          · exact hno.out j e hj he hh
          · rw [hvH.out] at he; injection he with he; subst he; exact h1 hh.1), rfl⟩
    · obtain rfl : k = n := by omega
      have hr := Lib.hid (show (-1 : Int) = f by rw [← hfH.out, findI_miss (fun j e he => hno.out j e (by rw [← hl.out]; exact (List.getElem?_eq_some_iff.1 he).1) he)])
      go_wp2
      go_ret
      exact ⟨ret_int hr.out, rfl⟩
set_option maxRecDepth 100000 in
set_option maxHeartbeats 4000000 in
theorem l17Ok_any (p : Nat) (Q S : Int) (ms : List Mvm) (w : World) (hM : McAt w p Q S ms) (b : Bool) (hb : mcB Q S ms = b) :
    Calls Tryd.prog 19 #[.pointer (some ⟨p, 0, none⟩)] w fun e w' => e = .returned (.bool b) ∧ Below w.heap.size w w' := by
  obtain ⟨A, n, c, c2, hx, hn⟩ := hM.mv
  have lp := hM.lt
  have c0 := hM.c0
  have c1 := hM.c1
  have hl := hx.len
  have hB := Lib.hid (show b = (inB Q 1 5 && (inB S 1 4 && (decide (n ≤ 20) && (allB n (okM Q S ms) && allB n (newM ms))))) by rw [← hb, ← hl]; rfl)
  have hlH := Lib.hid hl
  have hxH := Lib.hid hx
  have hMH := Lib.hid hM
  clear hb hx hl hM
  cases h1 : inB Q 1 5
  · have hr := Lib.hid (show false = b by rw [hB.out, h1]; rfl)
    go_enter Tryd.func19, Tryd.ntmps19
    go_wp2_with (go_at_call 41; refine (l00In_any _ _ _ _).mono ?_; rintro e _ ⟨rfl, rfl⟩)
    go_ret
    exact ⟨ret_bool hr.out, bl_refl _⟩
  cases h2 : inB S 1 4
  · have hr := Lib.hid (show false = b by rw [hB.out, h1, h2]; rfl)
    go_enter Tryd.func19, Tryd.ntmps19
    go_wp2_with (go_at_call 41; refine (l00In_any _ _ _ _).mono ?_; rintro e _ ⟨rfl, rfl⟩)
    go_ret
    exact ⟨ret_bool hr.out, bl_refl _⟩
  by_cases hn20 : n ≤ 20
  rotate_left
  · have hr := Lib.hid (show false = b by rw [hB.out, h1, h2, decide_eq_false hn20]; rfl)
    have hnI : ¬ ((n : Int) ≤ 20) := by omega
    have hnJ : (20 : Int) < (n : Int) := by omega
    go_enter Tryd.func19, Tryd.ntmps19
    go_wp2_with (go_at_call 41; refine (l00In_any _ _ _ _).mono ?_; rintro e _ ⟨rfl, rfl⟩)
    go_ret
    exact ⟨ret_bool hr.out, bl_refl _⟩
  have hnI : ¬ ((20 : Int) < (n : Int)) := by omega
  have hQr := inB_true.1 h1
  have hSr := inB_true.1 h2
  have wq : IntKind.i64.wrap (Q - 1) = Q - 1 := wrapN (by omega) (by omega)
  have ws : IntKind.i64.wrap (S - 1) = S - 1 := wrapN (by omega) (by omega)
  have hB := Lib.hid (show b = (allB n (okM Q S ms) && allB n (newM ms)) by rw [hB.out, h1, h2, decide_eq_true hn20]; rfl)
  go_enter Tryd.func19, Tryd.ntmps19
  go_wp2_with (go_at_call 41; refine (l00In_any _ _ _ _).mono ?_; rintro e _ ⟨rfl, rfl⟩)
  clear h1 h2
  go_loopg [3] n (fun g i wr => ∃ k : Nat, k + g = n ∧ i = .int .i64 (k : Int) ∧ Hid (∀ j, j < k → okM Q S ms j = true ∧ newM ms j = true) ∧ Hid (Below w.heap.size w wr))
  case atStart => exact ⟨0, by omega, rfl, Lib.hid (fun j hj => by omega), Lib.hid (bl_refl _)⟩
  case round =>
    obtain ⟨k, hk, rfl, hok, hbw⟩ := hrel
    have hsz := hbw.out.size
    have d0 := (hbw.out.cell (p := ⟨p, 0, none⟩) lp).trans c0
    have d1 := (hbw.out.cell (p := ⟨p, 1, none⟩) lp).trans c1
    have d2 := (hbw.out.cell (p := ⟨p, 2, none⟩) lp).trans c2
    have ld := Nat.lt_of_lt_of_le lp hsz
    by_cases hkn : k < n
    · have hx1 := hxH.out.below RMv.stable hbw.out
      have hMw := Lib.hid (hMH.out.below hbw.out)
      obtain ⟨bb, o, rfl, hbb, hc⟩ := hx1.ptr (by omega)
      obtain ⟨v, hv⟩ := hx1.get hkn
      obtain ⟨e0, e1, e2, e3, e4⟩ := hc k v hv
      have HS := Lib.hid (okM_eq (Q := Q) (S := S) hv)
      have HN := Lib.hid (newM_eq hv)
      obtain ⟨vs, vr, vw, vd, vn⟩ := v
      simp only at e0 e1 e2 e3 e4
      obtain ⟨ff, hff⟩ : ∃ ff, findI ms vs vr = ff := ⟨_, rfl⟩
      have hffH := Lib.hid hff
      have HO := Lib.hid (show okM Q S ms k = (inB vs 0 (Q - 1) && (inB vn 0 (Q - 1) && (inB vr 0 (S - 1) && (inB vw 0 (S - 1) && (vd == 1 || vd == 3))))) from HS.out)
      have HN2 := Lib.hid (show newM ms k = decide (ff = (k : Int)) by rw [HN.out]; simp only [hff])
      clear hc hv hx1 hff HS HN c0 c1 c2
      cases h1 : inB vs 0 (Q - 1)
      · have hr := Lib.hid (show false = b by rw [hB.out, allB_false hkn (show okM Q S ms k = false by rw [HO.out, h1]; simp)]; simp)
        go_wp2_with fail
        have jb : Below wr.heap.size wr ((wr.alloc (Obj.cells #[.int .i64 vs, .int .i64 vr, .int .i64 vw, .int .i64 vd, .int .i64 vn] 82)).drew) := bl_dr (bl_al (bl_refl wr) _)
        refine wp_region_ord [(0, .q), (1, .q), (2, .q), (3, .q), (4, .q), (5, .q), (6, .q), (7, .g), (8, .q), (9, .q), (10, .q), (11, .q), (12, .q), (13, .q), (14, .q), (15, .q), (16, .q), (17, .g), (18, .q), (19, .q), (20, .q), (21, .q), (22, .q), (23, .q), (24, .q), (25, .q), (26, .q), (27, .q), (28, .g), (29, .q), (30, .q), (31, .q), (32, .q), (33, .q), (34, .q), (35, .q), (36, .q), (37, .q), (38, .q), (39, .g), (40, .q), (41, .q), (42, .q), (43, .q), (44, .q), (45, .q), (46, .q), (47, .q), (48, .q), (49, .q), (50, .q), (51, .q), (52, .q), (53, .q), (54, .q), (55, .q), (56, .q), (57, .q), (59, .q), (58, .g), (60, .q), (61, .q)] (by kernel_rfl) (by kernel_rfl) ?_
        simp only [pick, List.filterMap_cons, List.filterMap_nil, List.getElem?_toArray, List.getElem?_cons_zero, List.getElem?_cons_succ, Option.map_some]
        repeat (first
          | ((with_reducible refine wpD_p (fun K hK => ?_)); go_simp; refine hK _ ?_; clear hK K)
          | ((with_reducible refine wpD_q (fun K hK => ?_)); go_simp; (first | refine hK _ ?_ | (go_bits; refine hK _ ?_) | (go_bits; go_simp; refine hK _ ?_)); clear hK K)
          | ((with_reducible refine wpD_g (fun K hK => ?_)); go_simp; refine hK _ _ ?_; clear hK K)
          | ((with_reducible refine wpD_g (fun K hK => ?_)); go_simp; refine ⟨Grew.of_alloc _, hK _ _ ?_⟩; clear hK K)
          | ((with_reducible refine wpD_g (fun K hK => ?_)); go_simp; refine ⟨Below.refl _ _, hK _ _ ?_⟩; clear hK K)
          | ((with_reducible refine wpD_g (fun K hK => ?_)); go_simp; go_at_call 41; refine (l00In_any _ _ _ _).mono ?_; rintro e _ ⟨rfl, rfl⟩; refine ⟨_, rfl, Below.refl _ _, hK _ _ ?_⟩; clear hK K)
          | ((with_reducible refine wpD_g (fun K hK => ?_)); go_simp; go_at_call 42; refine (l17Find_any p Q S vs vr ms _ (hMw.out.below jb) _ hffH.out).mono ?_; rintro e _ ⟨rfl, rfl⟩; refine ⟨_, rfl, Below.refl _ _, hK _ _ ?_⟩; clear hK K))
        with_reducible refine wpD_nil ?_
        go_wp2
        go_ret
        exact ⟨ret_bool hr.out, hbw.out.trans (jb.mono hsz)⟩
      cases h2 : inB vr 0 (S - 1)
      · have hr := Lib.hid (show false = b by rw [hB.out, allB_false hkn (show okM Q S ms k = false by rw [HO.out, h2]; simp)]; simp)
        go_wp2_with fail
        have jb : Below wr.heap.size wr ((wr.alloc (Obj.cells #[.int .i64 vs, .int .i64 vr, .int .i64 vw, .int .i64 vd, .int .i64 vn] 82)).drew) := bl_dr (bl_al (bl_refl wr) _)
        refine wp_region_ord [(0, .q), (1, .q), (2, .q), (3, .q), (4, .q), (5, .q), (6, .q), (7, .g), (8, .q), (9, .q), (10, .q), (11, .q), (12, .q), (13, .q), (14, .q), (15, .q), (16, .q), (17, .g), (18, .q), (19, .q), (20, .q), (21, .q), (22, .q), (23, .q), (24, .q), (25, .q), (26, .q), (27, .q), (28, .g), (29, .q), (30, .q), (31, .q), (32, .q), (33, .q), (34, .q), (35, .q), (36, .q), (37, .q), (38, .q), (39, .g), (40, .q), (41, .q), (42, .q), (43, .q), (44, .q), (45, .q), (46, .q), (47, .q), (48, .q), (49, .q), (50, .q), (51, .q), (52, .q), (53, .q), (54, .q), (55, .q), (56, .q), (57, .q), (59, .q), (58, .g), (60, .q), (61, .q)] (by kernel_rfl) (by kernel_rfl) ?_
        simp only [pick, List.filterMap_cons, List.filterMap_nil, List.getElem?_toArray, List.getElem?_cons_zero, List.getElem?_cons_succ, Option.map_some]
        repeat (first
          | ((with_reducible refine wpD_p (fun K hK => ?_)); go_simp; refine hK _ ?_; clear hK K)
          | ((with_reducible refine wpD_q (fun K hK => ?_)); go_simp; (first | refine hK _ ?_ | (go_bits; refine hK _ ?_) | (go_bits; go_simp; refine hK _ ?_)); clear hK K)
          | ((with_reducible refine wpD_g (fun K hK => ?_)); go_simp; refine hK _ _ ?_; clear hK K)
          | ((with_reducible refine wpD_g (fun K hK => ?_)); go_simp; refine ⟨Grew.of_alloc _, hK _ _ ?_⟩; clear hK K)
          | ((with_reducible refine wpD_g (fun K hK => ?_)); go_simp; refine ⟨Below.refl _ _, hK _ _ ?_⟩; clear hK K)
          | ((with_reducible refine wpD_g (fun K hK => ?_)); go_simp; go_at_call 41; refine (l00In_any _ _ _ _).mono ?_; rintro e _ ⟨rfl, rfl⟩; refine ⟨_, rfl, Below.refl _ _, hK _ _ ?_⟩; clear hK K)
          | ((with_reducible refine wpD_g (fun K hK => ?_)); go_simp; go_at_call 42; refine (l17Find_any p Q S vs vr ms _ (hMw.out.below jb) _ hffH.out).mono ?_; rintro e _ ⟨rfl, rfl⟩; refine ⟨_, rfl, Below.refl _ _, hK _ _ ?_⟩; clear hK K))
        with_reducible refine wpD_nil ?_
        go_wp2
        go_ret
        exact ⟨ret_bool hr.out, hbw.out.trans (jb.mono hsz)⟩
      cases h3 : inB vw 0 (S - 1)
      · have hr := Lib.hid (show false = b by rw [hB.out, allB_false hkn (show okM Q S ms k = false by rw [HO.out, h3]; simp)]; simp)
        go_wp2_with fail
        have jb : Below wr.heap.size wr ((wr.alloc (Obj.cells #[.int .i64 vs, .int .i64 vr, .int .i64 vw, .int .i64 vd, .int .i64 vn] 82)).drew) := bl_dr (bl_al (bl_refl wr) _)
        refine wp_region_ord [(0, .q), (1, .q), (2, .q), (3, .q), (4, .q), (5, .q), (6, .q), (7, .g), (8, .q), (9, .q), (10, .q), (11, .q), (12, .q), (13, .q), (14, .q), (15, .q), (16, .q), (17, .g), (18, .q), (19, .q), (20, .q), (21, .q), (22, .q), (23, .q), (24, .q), (25, .q), (26, .q), (27, .q), (28, .g), (29, .q), (30, .q), (31, .q), (32, .q), (33, .q), (34, .q), (35, .q), (36, .q), (37, .q), (38, .q), (39, .g), (40, .q), (41, .q), (42, .q), (43, .q), (44, .q), (45, .q), (46, .q), (47, .q), (48, .q), (49, .q), (50, .q), (51, .q), (52, .q), (53, .q), (54, .q), (55, .q), (56, .q), (57, .q), (59, .q), (58, .g), (60, .q), (61, .q)] (by kernel_rfl) (by kernel_rfl) ?_
        simp only [pick, List.filterMap_cons, List.filterMap_nil, List.getElem?_toArray, List.getElem?_cons_zero, List.getElem?_cons_succ, Option.map_some]
        repeat (first
          | ((with_reducible refine wpD_p (fun K hK => ?_)); go_simp; refine hK _ ?_; clear hK K)
          | ((with_reducible refine wpD_q (fun K hK => ?_)); go_simp; (first | refine hK _ ?_ | (go_bits; refine hK _ ?_) | (go_bits; go_simp; refine hK _ ?_)); clear hK K)
          | ((with_reducible refine wpD_g (fun K hK => ?_)); go_simp; refine hK _ _ ?_; clear hK K)
          | ((with_reducible refine wpD_g (fun K hK => ?_)); go_simp; refine ⟨Grew.of_alloc _, hK _ _ ?_⟩; clear hK K)
          | ((with_reducible refine wpD_g (fun K hK => ?_)); go_simp; refine ⟨Below.refl _ _, hK _ _ ?_⟩; clear hK K)
          | ((with_reducible refine wpD_g (fun K hK => ?_)); go_simp; go_at_call 41; refine (l00In_any _ _ _ _).mono ?_; rintro e _ ⟨rfl, rfl⟩; refine ⟨_, rfl, Below.refl _ _, hK _ _ ?_⟩; clear hK K)
          | ((with_reducible refine wpD_g (fun K hK => ?_)); go_simp; go_at_call 42; refine (l17Find_any p Q S vs vr ms _ (hMw.out.below jb) _ hffH.out).mono ?_; rintro e _ ⟨rfl, rfl⟩; refine ⟨_, rfl, Below.refl _ _, hK _ _ ?_⟩; clear hK K))
        with_reducible refine wpD_nil ?_
        go_wp2
        go_ret
        exact ⟨ret_bool hr.out, hbw.out.trans (jb.mono hsz)⟩
      cases h4 : inB vn 0 (Q - 1)
      · have hr := Lib.hid (show false = b by rw [hB.out, allB_false hkn (show okM Q S ms k = false by rw [HO.out, h4]; simp)]; simp)
        go_wp2_with fail
        have jb : Below wr.heap.size wr ((wr.alloc (Obj.cells #[.int .i64 vs, .int .i64 vr, .int .i64 vw, .int .i64 vd, .int .i64 vn] 82)).drew) := bl_dr (bl_al (bl_refl wr) _)
        refine wp_region_ord [(0, .q), (1, .q), (2, .q), (3, .q), (4, .q), (5, .q), (6, .q), (7, .g), (8, .q), (9, .q), (10, .q), (11, .q), (12, .q), (13, .q), (14, .q), (15, .q), (16, .q), (17, .g), (18, .q), (19, .q), (20, .q), (21, .q), (22, .q), (23, .q), (24, .q), (25, .q), (26, .q), (27, .q), (28, .g), (29, .q), (30, .q), (31, .q), (32, .q), (33, .q), (34, .q), (35, .q), (36, .q), (37, .q), (38, .q), (39, .g), (40, .q), (41, .q), (42, .q), (43, .q), (44, .q), (45, .q), (46, .q), (47, .q), (48, .q), (49, .q), (50, .q), (51, .q), (52, .q), (53, .q), (54, .q), (55, .q), (56, .q), (57, .q), (59, .q), (58, .g), (60, .q), (61, .q)] (by kernel_rfl) (by kernel_rfl) ?_
        simp only [pick, List.filterMap_cons, List.filterMap_nil, List.getElem?_toArray, List.getElem?_cons_zero, List.getElem?_cons_succ, Option.map_some]
        repeat (first
          | ((with_reducible refine wpD_p (fun K hK => ?_)); go_simp; refine hK _ ?_; clear hK K)
          | ((with_reducible refine wpD_q (fun K hK => ?_)); go_simp; (first | refine hK _ ?_ | (go_bits; refine hK _ ?_) | (go_bits; go_simp; refine hK _ ?_)); clear hK K)
          | ((with_reducible refine wpD_g (fun K hK => ?_)); go_simp; refine hK _ _ ?_; clear hK K)
          | ((with_reducible refine wpD_g (fun K hK => ?_)); go_simp; refine ⟨Grew.of_alloc _, hK _ _ ?_⟩; clear hK K)
          | ((with_reducible refine wpD_g (fun K hK => ?_)); go_simp; refine ⟨Below.refl _ _, hK _ _ ?_⟩; clear hK K)
          | ((with_reducible refine wpD_g (fun K hK => ?_)); go_simp; go_at_call 41; refine (l00In_any _ _ _ _).mono ?_; rintro e _ ⟨rfl, rfl⟩; refine ⟨_, rfl, Below.refl _ _, hK _ _ ?_⟩; clear hK K)
          | ((with_reducible refine wpD_g (fun K hK => ?_)); go_simp; go_at_call 42; refine (l17Find_any p Q S vs vr ms _ (hMw.out.below jb) _ hffH.out).mono ?_; rintro e _ ⟨rfl, rfl⟩; refine ⟨_, rfl, Below.refl _ _, hK _ _ ?_⟩; clear hK K))
        with_reducible refine wpD_nil ?_
        go_wp2
        go_ret
        exact ⟨ret_bool hr.out, hbw.out.trans (jb.mono hsz)⟩
      have hd : vd = 1 ∨ vd = 3 ∨ (¬ vd = 1 ∧ ¬ vd = 3) := by omega
      by_cases hdn : ¬ vd = 1 ∧ ¬ vd = 3
      · obtain ⟨hd1, hd3⟩ := hdn
        have hd1b : (vd == 1) = false := by simpa using hd1
        have hd3b : (vd == 3) = false := by simpa using hd3
        have hd1c : (vd != 1) = true := by simpa using hd1
        have hd3c : (vd != 3) = true := by simpa using hd3
        have hr := Lib.hid (show false = b by rw [hB.out, allB_false hkn (show okM Q S ms k = false by rw [HO.out, hd1b, hd3b]; simp)]; simp)
        go_wp2_with fail
        have jb : Below wr.heap.size wr ((wr.alloc (Obj.cells #[.int .i64 vs, .int .i64 vr, .int .i64 vw, .int .i64 vd, .int .i64 vn] 82)).drew) := bl_dr (bl_al (bl_refl wr) _)
        refine wp_region_ord [(0, .q), (1, .q), (2, .q), (3, .q), (4, .q), (5, .q), (6, .q), (7, .g), (8, .q), (9, .q), (10, .q), (11, .q), (12, .q), (13, .q), (14, .q), (15, .q), (16, .q), (17, .g), (18, .q), (19, .q), (20, .q), (21, .q), (22, .q), (23, .q), (24, .q), (25, .q), (26, .q), (27, .q), (28, .g), (29, .q), (30, .q), (31, .q), (32, .q), (33, .q), (34, .q), (35, .q), (36, .q), (37, .q), (38, .q), (39, .g), (40, .q), (41, .q), (42, .q), (43, .q), (44, .q), (45, .q), (46, .q), (47, .q), (48, .q), (49, .q), (50, .q), (51, .q), (52, .q), (53, .q), (54, .q), (55, .q), (56, .q), (57, .q), (59, .q), (58, .g), (60, .q), (61, .q)] (by kernel_rfl) (by kernel_rfl) ?_
        simp only [pick, List.filterMap_cons, List.filterMap_nil, List.getElem?_toArray, List.getElem?_cons_zero, List.getElem?_cons_succ, Option.map_some]
        repeat (first
          | ((with_reducible refine wpD_p (fun K hK => ?_)); go_simp; refine hK _ ?_; clear hK K)
          | ((with_reducible refine wpD_q (fun K hK => ?_)); go_simp; (first | refine hK _ ?_ | (go_bits; refine hK _ ?_) | (go_bits; go_simp; refine hK _ ?_)); clear hK K)
          | ((with_reducible refine wpD_g (fun K hK => ?_)); go_simp; refine hK _ _ ?_; clear hK K)
          | ((with_reducible refine wpD_g (fun K hK => ?_)); go_simp; refine ⟨Grew.of_alloc _, hK _ _ ?_⟩; clear hK K)
          | ((with_reducible refine wpD_g (fun K hK => ?_)); go_simp; refine ⟨Below.refl _ _, hK _ _ ?_⟩; clear hK K)
          | ((with_reducible refine wpD_g (fun K hK => ?_)); go_simp; go_at_call 41; refine (l00In_any _ _ _ _).mono ?_; rintro e _ ⟨rfl, rfl⟩; refine ⟨_, rfl, Below.refl _ _, hK _ _ ?_⟩; clear hK K)
          | ((with_reducible refine wpD_g (fun K hK => ?_)); go_simp; go_at_call 42; refine (l17Find_any p Q S vs vr ms _ (hMw.out.below jb) _ hffH.out).mono ?_; rintro e _ ⟨rfl, rfl⟩; refine ⟨_, rfl, Below.refl _ _, hK _ _ ?_⟩; clear hK K))
        with_reducible refine wpD_nil ?_
        go_wp2
        go_ret
        exact ⟨ret_bool hr.out, hbw.out.trans (jb.mono hsz)⟩
      have hd := Lib.hid (show vd = 1 ∨ vd = 3 by omega)
      clear hdn
      by_cases hfk : ff = (k : Int)
      · rcases hd.out with rfl | rfl
        · subst hfk
          have hok' := Lib.hid (show okM Q S ms k = true by rw [HO.out, h1, h2, h3, h4]; rfl)
          go_wp2_with fail
          have jb : Below wr.heap.size wr ((wr.alloc (Obj.cells #[.int .i64 vs, .int .i64 vr, .int .i64 vw, .int .i64 1, .int .i64 vn] 82)).drew) := bl_dr (bl_al (bl_refl wr) _)
          refine wp_region_ord [(0, .q), (1, .q), (2, .q), (3, .q), (4, .q), (5, .q), (6, .q), (7, .g), (8, .q), (9, .q), (10, .q), (11, .q), (12, .q), (13, .q), (14, .q), (15, .q), (16, .q), (17, .g), (18, .q), (19, .q), (20, .q), (21, .q), (22, .q), (23, .q), (24, .q), (25, .q), (26, .q), (27, .q), (28, .g), (29, .q), (30, .q), (31, .q), (32, .q), (33, .q), (34, .q), (35, .q), (36, .q), (37, .q), (38, .q), (39, .g), (40, .q), (41, .q), (42, .q), (43, .q), (44, .q), (45, .q), (46, .q), (47, .q), (48, .q), (49, .q), (50, .q), (51, .q), (52, .q), (53, .q), (54, .q), (55, .q), (56, .q), (57, .q), (59, .q), (58, .g), (60, .q), (61, .q)] (by kernel_rfl) (by kernel_rfl) ?_
          simp only [pick, List.filterMap_cons, List.filterMap_nil, List.getElem?_toArray, List.getElem?_cons_zero, List.getElem?_cons_succ, Option.map_some]
          repeat (first
            | ((with_reducible refine wpD_p (fun K hK => ?_)); go_simp; refine hK _ ?_; clear hK K)
            | ((with_reducible refine wpD_q (fun K hK => ?_)); go_simp; (first | refine hK _ ?_ | (go_bits; refine hK _ ?_) | (go_bits; go_simp; refine hK _ ?_)); clear hK K)
            | ((with_reducible refine wpD_g (fun K hK => ?_)); go_simp; refine hK _ _ ?_; clear hK K)
            | ((with_reducible refine wpD_g (fun K hK => ?_)); go_simp; refine ⟨Grew.of_alloc _, hK _ _ ?_⟩; clear hK K)
            | ((with_reducible refine wpD_g (fun K hK => ?_)); go_simp; refine ⟨Below.refl _ _, hK _ _ ?_⟩; clear hK K)
            | ((with_reducible refine wpD_g (fun K hK => ?_)); go_simp; go_at_call 41; refine (l00In_any _ _ _ _).mono ?_; rintro e _ ⟨rfl, rfl⟩; refine ⟨_, rfl, Below.refl _ _, hK _ _ ?_⟩; clear hK K)
            | ((with_reducible refine wpD_g (fun K hK => ?_)); go_simp; go_at_call 42; refine (l17Find_any p Q S vs vr ms _ (hMw.out.below jb) _ hffH.out).mono ?_; rintro e _ ⟨rfl, rfl⟩; refine ⟨_, rfl, Below.refl _ _, hK _ _ ?_⟩; clear hK K))
          with_reducible refine wpD_nil ?_
          go_wp2
          go_roundg (n - (k + 1))
          case measure => omega
          case rel => exact ⟨k + 1, by omega, by go_num, Lib.hid (fun j hj => by
            rcases Nat.lt_succ_iff_lt_or_eq.1 hj with hj | rfl
            · exact hok.out j hj
            · exact ⟨hok'.out, by rw [HN2.out]; simp⟩), Lib.hid (hbw.out.trans (jb.mono hsz))⟩
        · subst hfk
          have hok' := Lib.hid (show okM Q S ms k = true by rw [HO.out, h1, h2, h3, h4]; rfl)
          go_wp2_with fail
          have jb : Below wr.heap.size wr ((wr.alloc (Obj.cells #[.int .i64 vs, .int .i64 vr, .int .i64 vw, .int .i64 3, .int .i64 vn] 82)).drew) := bl_dr (bl_al (bl_refl wr) _)
          refine wp_region_ord [(0, .q), (1, .q), (2, .q), (3, .q), (4, .q), (5, .q), (6, .q), (7, .g), (8, .q), (9, .q), (10, .q), (11, .q), (12, .q), (13, .q), (14, .q), (15, .q), (16, .q), (17, .g), (18, .q), (19, .q), (20, .q), (21, .q), (22, .q), (23, .q), (24, .q), (25, .q), (26, .q), (27, .q), (28, .g), (29, .q), (30, .q), (31, .q), (32, .q), (33, .q), (34, .q), (35, .q), (36, .q), (37, .q), (38, .q), (39, .g), (40, .q), (41, .q), (42, .q), (43, .q), (44, .q), (45, .q), (46, .q), (47, .q), (48, .q), (49, .q), (50, .q), (51, .q), (52, .q), (53, .q), (54, .q), (55, .q), (56, .q), (57, .q), (59, .q), (58, .g), (60, .q), (61, .q)] (by kernel_rfl) (by kernel_rfl) ?_
          simp only [pick, List.filterMap_cons, List.filterMap_nil, List.getElem?_toArray, List.getElem?_cons_zero, List.getElem?_cons_succ, Option.map_some]
          repeat (first
            | ((with_reducible refine wpD_p (fun K hK => ?_)); go_simp; refine hK _ ?_; clear hK K)
            | ((with_reducible refine wpD_q (fun K hK => ?_)); go_simp; (first | refine hK _ ?_ | (go_bits; refine hK _ ?_) | (go_bits; go_simp; refine hK _ ?_)); clear hK K)
            | ((with_reducible refine wpD_g (fun K hK => ?_)); go_simp; refine hK _ _ ?_; clear hK K)
            | ((with_reducible refine wpD_g (fun K hK => ?_)); go_simp; refine ⟨Grew.of_alloc _, hK _ _ ?_⟩; clear hK K)
            | ((with_reducible refine wpD_g (fun K hK => ?_)); go_simp; refine ⟨Below.refl _ _, hK _ _ ?_⟩; clear hK K)
            | ((with_reducible refine wpD_g (fun K hK => ?_)); go_simp; go_at_call 41; refine (l00In_any _ _ _ _).mono ?_; rintro e _ ⟨rfl, rfl⟩; refine ⟨_, rfl, Below.refl _ _, hK _ _ ?_⟩; clear hK K)
            | ((with_reducible refine wpD_g (fun K hK => ?_)); go_simp; go_at_call 42; refine (l17Find_any p Q S vs vr ms _ (hMw.out.below jb) _ hffH.out).mono ?_; rintro e _ ⟨rfl, rfl⟩; refine ⟨_, rfl, Below.refl _ _, hK _ _ ?_⟩; clear hK K))
          with_reducible refine wpD_nil ?_
          go_wp2
          go_roundg (n - (k + 1))
          case measure => omega
          case rel => exact ⟨k + 1, by omega, by go_num, Lib.hid (fun j hj => by
            rcases Nat.lt_succ_iff_lt_or_eq.1 hj with hj | rfl
            · exact hok.out j hj
            · exact ⟨hok'.out, by rw [HN2.out]; simp⟩), Lib.hid (hbw.out.trans (jb.mono hsz))⟩
      · rcases hd.out with rfl | rfl
        · have hfb : (ff != (k : Int)) = true := by simpa using hfk
          have hfc : (ff == (k : Int)) = false := by simpa using hfk
          have hr := Lib.hid (show false = b by rw [hB.out, allB_false hkn (show newM ms k = false by rw [HN2.out]; simpa using hfk)]; simp)
          go_wp2_with fail
          have jb : Below wr.heap.size wr ((wr.alloc (Obj.cells #[.int .i64 vs, .int .i64 vr, .int .i64 vw, .int .i64 1, .int .i64 vn] 82)).drew) := bl_dr (bl_al (bl_refl wr) _)
          refine wp_region_ord [(0, .q), (1, .q), (2, .q), (3, .q), (4, .q), (5, .q), (6, .q), (7, .g), (8, .q), (9, .q), (10, .q), (11, .q), (12, .q), (13, .q), (14, .q), (15, .q), (16, .q), (17, .g), (18, .q), (19, .q), (20, .q), (21, .q), (22, .q), (23, .q), (24, .q), (25, .q), (26, .q), (27, .q), (28, .g), (29, .q), (30, .q), (31, .q), (32, .q), (33, .q), (34, .q), (35, .q), (36, .q), (37, .q), (38, .q), (39, .g), (40, .q), (41, .q), (42, .q), (43, .q), (44, .q), (45, .q), (46, .q), (47, .q), (48, .q), (49, .q), (50, .q), (51, .q), (52, .q), (53, .q), (54, .q), (55, .q), (56, .q), (57, .q), (59, .q), (58, .g), (60, .q), (61, .q)] (by kernel_rfl) (by kernel_rfl) ?_
          simp only [pick, List.filterMap_cons, List.filterMap_nil, List.getElem?_toArray, List.getElem?_cons_zero, List.getElem?_cons_succ, Option.map_some]
          repeat (first
            | ((with_reducible refine wpD_p (fun K hK => ?_)); go_simp; refine hK _ ?_; clear hK K)
            | ((with_reducible refine wpD_q (fun K hK => ?_)); go_simp; (first | refine hK _ ?_ | (go_bits; refine hK _ ?_) | (go_bits; go_simp; refine hK _ ?_)); clear hK K)
            | ((with_reducible refine wpD_g (fun K hK => ?_)); go_simp; refine hK _ _ ?_; clear hK K)
            | ((with_reducible refine wpD_g (fun K hK => ?_)); go_simp; refine ⟨Grew.of_alloc _, hK _ _ ?_⟩; clear hK K)
            | ((with_reducible refine wpD_g (fun K hK => ?_)); go_simp; refine ⟨Below.refl _ _, hK _ _ ?_⟩; clear hK K)
            | ((with_reducible refine wpD_g (fun K hK => ?_)); go_simp; go_at_call 41; refine (l00In_any _ _ _ _).mono ?_; rintro e _ ⟨rfl, rfl⟩; refine ⟨_, rfl, Below.refl _ _, hK _ _ ?_⟩; clear hK K)
            | ((with_reducible refine wpD_g (fun K hK => ?_)); go_simp; go_at_call 42; refine (l17Find_any p Q S vs vr ms _ (hMw.out.below jb) _ hffH.out).mono ?_; rintro e _ ⟨rfl, rfl⟩; refine ⟨_, rfl, Below.refl _ _, hK _ _ ?_⟩; clear hK K))
          with_reducible refine wpD_nil ?_
          go_wp2
          go_ret
          exact ⟨ret_bool hr.out, hbw.out.trans (jb.mono hsz)⟩
        · have hfb : (ff != (k : Int)) = true := by simpa using hfk
          have hfc : (ff == (k : Int)) = false := by simpa using hfk
          have hr := Lib.hid (show false = b by rw [hB.out, allB_false hkn (show newM ms k = false by rw [HN2.out]; simpa using hfk)]; simp)
          go_wp2_with fail
          have jb : Below wr.heap.size wr ((wr.alloc (Obj.cells #[.int .i64 vs, .int .i64 vr, .int .i64 vw, .int .i64 3, .int .i64 vn] 82)).drew) := bl_dr (bl_al (bl_refl wr) _)
          refine wp_region_ord [(0, .q), (1, .q), (2, .q), (3, .q), (4, .q), (5, .q), (6, .q), (7, .g), (8, .q), (9, .q), (10, .q), (11, .q), (12, .q), (13, .q), (14, .q), (15, .q), (16, .q), (17, .g), (18, .q), (19, .q), (20, .q), (21, .q), (22, .q), (23, .q), (24, .q), (25, .q), (26, .q), (27, .q), (28, .g), (29, .q), (30, .q), (31, .q), (32, .q), (33, .q), (34, .q), (35, .q), (36, .q), (37, .q), (38, .q), (39, .g), (40, .q), (41, .q), (42, .q), (43, .q), (44, .q), (45, .q), (46, .q), (47, .q), (48, .q), (49, .q), (50, .q), (51, .q), (52, .q), (53, .q), (54, .q), (55, .q), (56, .q), (57, .q), (59, .q), (58, .g), (60, .q), (61, .q)] (by kernel_rfl) (by kernel_rfl) ?_
          simp only [pick, List.filterMap_cons, List.filterMap_nil, List.getElem?_toArray, List.getElem?_cons_zero, List.getElem?_cons_succ, Option.map_some]
          repeat (first
            | ((with_reducible refine wpD_p (fun K hK => ?_)); go_simp; refine hK _ ?_; clear hK K)
            | ((with_reducible refine wpD_q (fun K hK => ?_)); go_simp; (first | refine hK _ ?_ | (go_bits; refine hK _ ?_) | (go_bits; go_simp; refine hK _ ?_)); clear hK K)
            | ((with_reducible refine wpD_g (fun K hK => ?_)); go_simp; refine hK _ _ ?_; clear hK K)
            | ((with_reducible refine wpD_g (fun K hK => ?_)); go_simp; refine ⟨Grew.of_alloc _, hK _ _ ?_⟩; clear hK K)
            | ((with_reducible refine wpD_g (fun K hK => ?_)); go_simp; refine ⟨Below.refl _ _, hK _ _ ?_⟩; clear hK K)
            | ((with_reducible refine wpD_g (fun K hK => ?_)); go_simp; go_at_call 41; refine (l00In_any _ _ _ _).mono ?_; rintro e _ ⟨rfl, rfl⟩; refine ⟨_, rfl, Below.refl _ _, hK _ _ ?_⟩; clear hK K)
            | ((with_reducible refine wpD_g (fun K hK => ?_)); go_simp; go_at_call 42; refine (l17Find_any p Q S vs vr ms _ (hMw.out.below jb) _ hffH.out).mono ?_; rintro e _ ⟨rfl, rfl⟩; refine ⟨_, rfl, Below.refl _ _, hK _ _ ?_⟩; clear hK K))
          with_reducible refine wpD_nil ?_
          go_wp2
          go_ret
          exact ⟨ret_bool hr.out, hbw.out.trans (jb.mono hsz)⟩
    · obtain rfl : k = n := by omega
      have hr := Lib.hid (show true = b by rw [hB.out, allB_true (fun j hj => (hok.out j hj).1), allB_true (fun j hj => (hok.out j hj).2)]; rfl)
      go_wp2
      go_ret
      exact ⟨ret_bool hr.out, hbw.out⟩
set_option maxRecDepth 100000 in
set_option maxHeartbeats 4000000 in
theorem l17Config_any (p q : Nat) (Q S h s : Int) (ms : List Mvm) (l : List Int) (w : World) (hM : McAt w p Q S ms) (hC : CfAt w q l h s) (hQ : 1 ≤ Q ∧ Q ≤ 5) (hS : 1 ≤ S ∧ S ≤ 4) (b : Bool) (hb : cfB Q S l h s = b) :
    Calls Tryd.prog 20 #[.pointer (some ⟨p, 0, none⟩), .pointer (some ⟨q, 0, none⟩)] w fun e w' => e = .returned (.bool b) ∧ Below w.heap.size w w' := by
  obtain ⟨A, n, c, t0, ht, hn⟩ := hC.tp
  have t1 := hC.c1
  have t2 := hC.c2
  have lq := hC.lt
  have lp := hM.lt
  have c0 := hM.c0
  have c1 := hM.c1
  have hl := ht.len
  have hB := Lib.hid (show b = (inB (n : Int) 1 12 && (allB n (symB S l) && (inB h 0 ((n : Int) - 1) && inB s 0 (Q - 1)))) by rw [← hb, ← hl]; rfl)
  have htH := Lib.hid ht
  clear hb ht hl hM hC
  have wq : IntKind.i64.wrap (Q - 1) = Q - 1 := wrapN (by omega) (by omega)
  have ws : IntKind.i64.wrap (S - 1) = S - 1 := wrapN (by omega) (by omega)
  have wn : IntKind.i64.wrap ((n : Int) - 1) = (n : Int) - 1 := wrapN (by omega) (by omega)
  cases h1 : inB (n : Int) 1 12
  · have hr := Lib.hid (show false = b by rw [hB.out, h1]; simp)
    go_enter Tryd.func20, Tryd.ntmps20
    go_wp2
    refine wp_region_ord [(0, .q), (1, .q), (2, .q), (3, .q), (4, .q), (5, .g), (6, .q), (7, .q), (8, .q), (9, .q), (10, .q), (11, .q), (12, .q), (13, .q), (14, .q), (15, .q), (16, .q), (17, .q), (18, .g), (19, .q), (20, .q), (21, .q), (22, .q), (23, .q), (24, .q), (25, .q), (26, .q), (27, .q), (28, .q), (29, .q), (30, .q), (31, .g), (32, .q), (33, .q)] (by kernel_rfl) (by kernel_rfl) ?_
    simp only [pick, List.filterMap_cons, List.filterMap_nil, List.getElem?_toArray, List.getElem?_cons_zero, List.getElem?_cons_succ, Option.map_some]
    repeat (first
      | ((with_reducible refine wpD_p (fun K hK => ?_)); go_simp; refine hK _ ?_; clear hK K)
      | ((with_reducible refine wpD_q (fun K hK => ?_)); go_simp; (first | refine hK _ ?_ | (go_bits; refine hK _ ?_) | (go_bits; go_simp; refine hK _ ?_)); clear hK K)
      | ((with_reducible refine wpD_g (fun K hK => ?_)); go_simp; refine hK _ _ ?_; clear hK K)
      | ((with_reducible refine wpD_g (fun K hK => ?_)); go_simp; refine ⟨Grew.of_alloc _, hK _ _ ?_⟩; clear hK K)
      | ((with_reducible refine wpD_g (fun K hK => ?_)); go_simp; refine ⟨Below.refl _ _, hK _ _ ?_⟩; clear hK K)
      | ((with_reducible refine wpD_g (fun K hK => ?_)); go_simp; go_at_call 41; refine (l00In_any _ _ _ _).mono ?_; rintro e _ ⟨rfl, rfl⟩; refine ⟨_, rfl, Below.refl _ _, hK _ _ ?_⟩; clear hK K))
    with_reducible refine wpD_nil ?_
    go_wp2
    go_ret
    exact ⟨ret_bool hr.out, bl_dr (bl_refl w)⟩
  cases h2 : inB h 0 ((n : Int) - 1)
  · have hr := Lib.hid (show false = b by rw [hB.out, h2]; simp)
    go_enter Tryd.func20, Tryd.ntmps20
    go_wp2
    refine wp_region_ord [(0, .q), (1, .q), (2, .q), (3, .q), (4, .q), (5, .g), (6, .q), (7, .q), (8, .q), (9, .q), (10, .q), (11, .q), (12, .q), (13, .q), (14, .q), (15, .q), (16, .q), (17, .q), (18, .g), (19, .q), (20, .q), (21, .q), (22, .q), (23, .q), (24, .q), (25, .q), (26, .q), (27, .q), (28, .q), (29, .q), (30, .q), (31, .g), (32, .q), (33, .q)] (by kernel_rfl) (by kernel_rfl) ?_
    simp only [pick, List.filterMap_cons, List.filterMap_nil, List.getElem?_toArray, List.getElem?_cons_zero, List.getElem?_cons_succ, Option.map_some]
    repeat (first
      | ((with_reducible refine wpD_p (fun K hK => ?_)); go_simp; refine hK _ ?_; clear hK K)
      | ((with_reducible refine wpD_q (fun K hK => ?_)); go_simp; (first | refine hK _ ?_ | (go_bits; refine hK _ ?_) | (go_bits; go_simp; refine hK _ ?_)); clear hK K)
      | ((with_reducible refine wpD_g (fun K hK => ?_)); go_simp; refine hK _ _ ?_; clear hK K)
      | ((with_reducible refine wpD_g (fun K hK => ?_)); go_simp; refine ⟨Grew.of_alloc _, hK _ _ ?_⟩; clear hK K)
      | ((with_reducible refine wpD_g (fun K hK => ?_)); go_simp; refine ⟨Below.refl _ _, hK _ _ ?_⟩; clear hK K)
      | ((with_reducible refine wpD_g (fun K hK => ?_)); go_simp; go_at_call 41; refine (l00In_any _ _ _ _).mono ?_; rintro e _ ⟨rfl, rfl⟩; refine ⟨_, rfl, Below.refl _ _, hK _ _ ?_⟩; clear hK K))
    with_reducible refine wpD_nil ?_
    go_wp2
    go_ret
    exact ⟨ret_bool hr.out, bl_dr (bl_refl w)⟩
  cases h3 : inB s 0 (Q - 1)
  · have hr := Lib.hid (show false = b by rw [hB.out, h3]; simp)
    go_enter Tryd.func20, Tryd.ntmps20
    go_wp2
    refine wp_region_ord [(0, .q), (1, .q), (2, .q), (3, .q), (4, .q), (5, .g), (6, .q), (7, .q), (8, .q), (9, .q), (10, .q), (11, .q), (12, .q), (13, .q), (14, .q), (15, .q), (16, .q), (17, .q), (18, .g), (19, .q), (20, .q), (21, .q), (22, .q), (23, .q), (24, .q), (25, .q), (26, .q), (27, .q), (28, .q), (29, .q), (30, .q), (31, .g), (32, .q), (33, .q)] (by kernel_rfl) (by kernel_rfl) ?_
    simp only [pick, List.filterMap_cons, List.filterMap_nil, List.getElem?_toArray, List.getElem?_cons_zero, List.getElem?_cons_succ, Option.map_some]
    repeat (first
      | ((with_reducible refine wpD_p (fun K hK => ?_)); go_simp; refine hK _ ?_; clear hK K)
      | ((with_reducible refine wpD_q (fun K hK => ?_)); go_simp; (first | refine hK _ ?_ | (go_bits; refine hK _ ?_) | (go_bits; go_simp; refine hK _ ?_)); clear hK K)
      | ((with_reducible refine wpD_g (fun K hK => ?_)); go_simp; refine hK _ _ ?_; clear hK K)
      | ((with_reducible refine wpD_g (fun K hK => ?_)); go_simp; refine ⟨Grew.of_alloc _, hK _ _ ?_⟩; clear hK K)
      | ((with_reducible refine wpD_g (fun K hK => ?_)); go_simp; refine ⟨Below.refl _ _, hK _ _ ?_⟩; clear hK K)
      | ((with_reducible refine wpD_g (fun K hK => ?_)); go_simp; go_at_call 41; refine (l00In_any _ _ _ _).mono ?_; rintro e _ ⟨rfl, rfl⟩; refine ⟨_, rfl, Below.refl _ _, hK _ _ ?_⟩; clear hK K))
    with_reducible refine wpD_nil ?_
    go_wp2
    go_ret
    exact ⟨ret_bool hr.out, bl_dr (bl_refl w)⟩
  have hB := Lib.hid (show b = allB n (symB S l) by rw [hB.out, h1, h2, h3]; simp)
  go_enter Tryd.func20, Tryd.ntmps20
  go_wp2
  refine wp_region_ord [(0, .q), (1, .q), (2, .q), (3, .q), (4, .q), (5, .g), (6, .q), (7, .q), (8, .q), (9, .q), (10, .q), (11, .q), (12, .q), (13, .q), (14, .q), (15, .q), (16, .q), (17, .q), (18, .g), (19, .q), (20, .q), (21, .q), (22, .q), (23, .q), (24, .q), (25, .q), (26, .q), (27, .q), (28, .q), (29, .q), (30, .q), (31, .g), (32, .q), (33, .q)] (by kernel_rfl) (by kernel_rfl) ?_
  simp only [pick, List.filterMap_cons, List.filterMap_nil, List.getElem?_toArray, List.getElem?_cons_zero, List.getElem?_cons_succ, Option.map_some]
  repeat (first
    | ((with_reducible refine wpD_p (fun K hK => ?_)); go_simp; refine hK _ ?_; clear hK K)
    | ((with_reducible refine wpD_q (fun K hK => ?_)); go_simp; (first | refine hK _ ?_ | (go_bits; refine hK _ ?_) | (go_bits; go_simp; refine hK _ ?_)); clear hK K)
    | ((with_reducible refine wpD_g (fun K hK => ?_)); go_simp; refine hK _ _ ?_; clear hK K)
    | ((with_reducible refine wpD_g (fun K hK => ?_)); go_simp; refine ⟨Grew.of_alloc _, hK _ _ ?_⟩; clear hK K)
    | ((with_reducible refine wpD_g (fun K hK => ?_)); go_simp; refine ⟨Below.refl _ _, hK _ _ ?_⟩; clear hK K)
    | ((with_reducible refine wpD_g (fun K hK => ?_)); go_simp; go_at_call 41; refine (l00In_any _ _ _ _).mono ?_; rintro e _ ⟨rfl, rfl⟩; refine ⟨_, rfl, Below.refl _ _, hK _ _ ?_⟩; clear hK K))
  with_reducible refine wpD_nil ?_
  go_wp2
  go_loopg [5] n (fun g i wr => ∃ k : Nat, k + g = n ∧ i = .int .i64 (k : Int) ∧ Hid (∀ j, j < k → symB S l j = true) ∧ Hid (Below w.heap.size w wr))
  case atStart => exact ⟨0, by omega, rfl, Lib.hid (fun j hj => by omega), Lib.hid (bl_dr (bl_refl _))⟩
  case round =>
    clear h1 h2 h3
    obtain ⟨k, hk, rfl, hok, hbw⟩ := hrel
    have hsz := hbw.out.size
    have d1 := (hbw.out.cell (p := ⟨p, 1, none⟩) lp).trans c1
    have u0 := (hbw.out.cell (p := ⟨q, 0, none⟩) lq).trans t0
    have ld := Nat.lt_of_lt_of_le lp hsz
    have lu := Nat.lt_of_lt_of_le lq hsz
    by_cases hkn : k < n
    · have hx1 := htH.out.below RInt.stable hbw.out
      obtain ⟨bb, o, rfl, hbb, hc⟩ := hx1.ptr (by omega)
      obtain ⟨v, hv⟩ := hx1.get hkn
      have e0 := hc k v hv
      simp only [RInt, Nat.mul_one] at e0
      have HS := Lib.hid (symB_eq (S := S) hv)
      clear hc hv hx1 c0 c1 t0 t1 t2
      cases hv4 : inB v 0 (S - 1)
      · have hr := Lib.hid (show false = b by rw [hB.out, allB_false hkn (by rw [HS.out, hv4])])
        go_wp2_with fail
        refine wp_region_ord [(0, .q), (1, .q), (2, .q), (3, .q), (4, .q), (5, .q), (6, .q), (7, .q), (8, .q), (9, .q), (10, .q), (11, .q), (12, .g), (13, .q)] (by kernel_rfl) (by kernel_rfl) ?_
        simp only [pick, List.filterMap_cons, List.filterMap_nil, List.getElem?_toArray, List.getElem?_cons_zero, List.getElem?_cons_succ, Option.map_some]
        repeat (first
          | ((with_reducible refine wpD_p (fun K hK => ?_)); go_simp; refine hK _ ?_; clear hK K)
          | ((with_reducible refine wpD_q (fun K hK => ?_)); go_simp; (first | refine hK _ ?_ | (go_bits; refine hK _ ?_) | (go_bits; go_simp; refine hK _ ?_)); clear hK K)
          | ((with_reducible refine wpD_g (fun K hK => ?_)); go_simp; refine hK _ _ ?_; clear hK K)
          | ((with_reducible refine wpD_g (fun K hK => ?_)); go_simp; refine ⟨Grew.of_alloc _, hK _ _ ?_⟩; clear hK K)
          | ((with_reducible refine wpD_g (fun K hK => ?_)); go_simp; refine ⟨Below.refl _ _, hK _ _ ?_⟩; clear hK K)
          | ((with_reducible refine wpD_g (fun K hK => ?_)); go_simp; go_at_call 41; refine (l00In_any _ _ _ _).mono ?_; rintro e _ ⟨rfl, rfl⟩; refine ⟨_, rfl, Below.refl _ _, hK _ _ ?_⟩; clear hK K))
        with_reducible refine wpD_nil ?_
        go_wp2
        go_ret
        exact ⟨ret_bool hr.out, bl_dr hbw.out⟩
      · go_wp2_with fail
        refine wp_region_ord [(0, .q), (1, .q), (2, .q), (3, .q), (4, .q), (5, .q), (6, .q), (7, .q), (8, .q), (9, .q), (10, .q), (11, .q), (12, .g), (13, .q)] (by kernel_rfl) (by kernel_rfl) ?_
        simp only [pick, List.filterMap_cons, List.filterMap_nil, List.getElem?_toArray, List.getElem?_cons_zero, List.getElem?_cons_succ, Option.map_some]
        repeat (first
          | ((with_reducible refine wpD_p (fun K hK => ?_)); go_simp; refine hK _ ?_; clear hK K)
          | ((with_reducible refine wpD_q (fun K hK => ?_)); go_simp; (first | refine hK _ ?_ | (go_bits; refine hK _ ?_) | (go_bits; go_simp; refine hK _ ?_)); clear hK K)
          | ((with_reducible refine wpD_g (fun K hK => ?_)); go_simp; refine hK _ _ ?_; clear hK K)
          | ((with_reducible refine wpD_g (fun K hK => ?_)); go_simp; refine ⟨Grew.of_alloc _, hK _ _ ?_⟩; clear hK K)
          | ((with_reducible refine wpD_g (fun K hK => ?_)); go_simp; refine ⟨Below.refl _ _, hK _ _ ?_⟩; clear hK K)
          | ((with_reducible refine wpD_g (fun K hK => ?_)); go_simp; go_at_call 41; refine (l00In_any _ _ _ _).mono ?_; rintro e _ ⟨rfl, rfl⟩; refine ⟨_, rfl, Below.refl _ _, hK _ _ ?_⟩; clear hK K))
        with_reducible refine wpD_nil ?_
        go_wp2
        go_roundg (n - (k + 1))
        case measure => omega
        case rel => exact ⟨k + 1, by omega, by go_num, Lib.hid (fun j hj => (by rcases Nat.lt_succ_iff_lt_or_eq.1 hj with hj | rfl; exact hok.out j hj; rw [HS.out, hv4])), Lib.hid (bl_dr hbw.out)⟩
    · obtain rfl : k = n := by omega
      have hr := Lib.hid (show true = b by rw [hB.out, allB_true hok.out])
      go_wp2
      go_ret
      exact ⟨ret_bool hr.out, hbw.out⟩
end Go.Proofs.YtkiamhpapkgboaaDoor
