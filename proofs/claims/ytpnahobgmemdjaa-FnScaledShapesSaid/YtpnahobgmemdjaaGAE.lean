import Derived.Test.YtpnahobgmemdjaaGAD
import Derived.Carry
import Derived.Deep.DeepMust
import Derived.Test.YtpnahobgmemdjaaGAA
import Derived.OrdersIn
import Derived.RangeFuncCalls
set_option linter.unusedSimpArgs false
set_option linter.unusedVariables false
/- Walks: the program's check of a set. -/



namespace Go.Proofs.Ytpnahobgmemdjaa
open Go.RowKit
attribute [local go_sem] BelowBy.cell BelowBy.cell_drew stillUpon givesUpon
/-- one of the first k glues bears the name -/
def seenG (gs : List Gl) (k : Nat) (s : ByteArray) : Bool := !allB k (fun i => match gs[i]? with | none => true | some e => decide (e.name ≠ s))
def seenT (ts : List Ti) (k : Nat) (s : ByteArray) : Bool := !allB k (fun i => match ts[i]? with | none => true | some e => decide (e.name ≠ s))
theorem allB_succ (k : Nat) (p : Nat → Bool) : allB (k + 1) p = (allB k p && p k) := by
  unfold allB; rw [List.range_succ, List.all_append]; simp
theorem seenG_succ {gs : List Gl} {k : Nat} {e : Gl} (h : gs[k]? = some e) (s : ByteArray) : (seenG gs k s || decide (s = e.name)) = seenG gs (k + 1) s := by
  unfold seenG; rw [allB_succ, h]
  by_cases hs : s = e.name
  · subst hs; simp
  · have : ¬ e.name = s := fun h => hs h.symm
    simp [hs, this]
theorem seenT_succ {ts : List Ti} {k : Nat} {e : Ti} (h : ts[k]? = some e) (s : ByteArray) : (seenT ts k s || decide (s = e.name)) = seenT ts (k + 1) s := by
  unfold seenT; rw [allB_succ, h]
  by_cases hs : s = e.name
  · subst hs; simp
  · have : ¬ e.name = s := fun h => hs h.symm
    simp [hs, this]
theorem freshG_seen {gs : List Gl} {k : Nat} {e : Gl} (h : gs[k]? = some e) : seenG gs k e.name = !freshG gs k := by unfold seenG freshG; simp only [h]; congr 1
theorem freshT_seen {ts : List Ti} {k : Nat} {e : Ti} (h : ts[k]? = some e) : seenT ts k e.name = !freshT ts k := by unfold seenT freshT; simp only [h]; congr 1
theorem BMap.made2 (w : World) (o : Obj) : BMap ((w.alloc o).alloc (.map #[] 0)) (w.heap.size + 1) 0 (fun _ => false) := by
  have := BMap.made (w.alloc o)
  rwa [World.size_alloc] at this
theorem isNameB_le {s : ByteArray} (h : isNameB s = true) : s.size ≤ 12 := by
  simp [isNameB] at h; exact h.2
end Go.Proofs.Ytpnahobgmemdjaa
/- Walks: the checks of an assembly. -/

namespace Go.Proofs.Ytpnahobgmemdjaa
open Go.RowKit
attribute [local go_sem] BelowBy.cell BelowBy.cell_drew stillUpon givesUpon
/-- what the program asks of a set and an assembly -/
def validAsmB (gs : List Gl) (ts : List Ti) (xs : List Pl) : Bool := validSetB gs ts && (hasFormB xs && allB xs.length (okTile ts.length xs))
/-- An assembly lies in block p. -/
structure AsmAt (w : World) (p op : Nat) (xs : List Pl) : Prop where
  lt : p < w.heap.size
  tl : ∃ A n c, w.cell? ⟨p, op, none⟩ = some (.slice A n c) ∧ RdSl 3 RPl w A n xs
theorem AsmAt.below {op : Nat} {w w' : World} {p : Nat} {xs : List Pl} (h : AsmAt w p op xs) (hb : Below w.heap.size w w') : AsmAt w' p op xs := by
  obtain ⟨A, n, c, h1, h2⟩ := h.tl
  exact ⟨Nat.lt_of_lt_of_le h.lt hb.size, ⟨A, n, c, (hb.cell (p := ⟨p, op, none⟩) h.lt).trans h1, h2.below RPl.stable hb⟩⟩
theorem okPl_eq0 {xs : List Pl} {e : Pl} (h : xs[0]? = some e) : okPl xs 0 = (validPt e.x e.y && inB e.t 0 159) := by
  unfold okPl; rw [h]; simp
theorem okPl_eqS {xs : List Pl} {k : Nat} {e d : Pl} (h : xs[k + 1]? = some e) (hd : xs[k]? = some d) : okPl xs (k + 1) = (validPt e.x e.y && inB e.t 0 159 && lessPt d.x d.y e.x e.y) := by
  unfold okPl; rw [h]; simp only [hd]
theorem hasFormB_bad {xs : List Pl} {k : Nat} (hk : k < xs.length) (h : okPl xs k = false) : hasFormB xs = false := by
  unfold hasFormB; rw [allB_false hk h]; rfl
theorem hasFormB_ok {xs : List Pl} (h1 : xs.length ≤ 500) (h : ∀ j, j < xs.length → okPl xs j = true) : hasFormB xs = true := by
  unfold hasFormB; rw [allB_true h]; simpa using h1
theorem hasFormB_long {xs : List Pl} (h1 : ¬ xs.length ≤ 500) : hasFormB xs = false := by
  unfold hasFormB; rw [decide_eq_false h1]; simp
set_option maxHeartbeats 4000000 in
theorem l03Form_any {op : Nat} (p : Nat) (xs : List Pl) (w : World) (h : AsmAt w p op xs) (hq : xs.length ≤ 1073741824) :
    Calls Try.prog 34 #[.pointer (some ⟨p, op, none⟩)] w fun e w' => e = .returned (.bool (hasFormB xs)) ∧ Below w.heap.size w w' := by
  obtain ⟨hlt, ⟨A, n, c, h1, h2⟩⟩ := id h
  have hla := h2.len
  
  by_cases hz1 : n ≤ 500
  rotate_left
  · go_enter Try.func34, Try.ntmps34
    go_wp2
    go_ret
    exact ⟨ret_bool (hasFormB_long (by omega)).symm, by exact bel_⟩
  go_enter Try.func34, Try.ntmps34
  go_wp2
  go_loopg [3] n (fun r x wr => ∃ k : Nat, k + r = n ∧ x = .int .i64 k ∧ (∀ j, j < k → okPl xs j = true) ∧ Below w.heap.size w wr)
  case atStart => exact ⟨0, by omega, rfl, fun j hj => by omega, by exact bel_⟩
  case round =>
    obtain ⟨k, hk, rfl, hokX, hbw⟩ := hrel
    have hset := h.below hbw
    obtain ⟨plt, ⟨A', n', c', g1, g2⟩⟩ := id hset
    have hset := Lib.hid hset
    obtain rfl : n' = n := by rw [← g2.len]; exact hla
    have hokT := Lib.hid hokX
    clear hokX h1 h2
    by_cases hkn : k < n'
    · obtain ⟨b, o, rfl, hb, hc⟩ := g2.ptr (by omega)
      obtain ⟨e, he⟩ := g2.get hkn
      obtain ⟨c0, c1, c2⟩ := hc k e he
      have hkz : k = 0 ∨ ∃ k', k = k' + 1 := by
        cases k with
        | zero => exact Or.inl rfl
        | succ k' => exact Or.inr ⟨k', rfl⟩
      rcases hkz with rfl | ⟨i, rfl⟩
      · have HK := Lib.hid (okPl_eq0 he)
        clear he hc g2
        simp only [Nat.zero_mul, Nat.add_zero] at c0 c1 c2
        cases hv1 : validPt e.x e.y
        · go_wp2
          refine wp_region_ord [(0, .q), (1, .q), (2, .g), (3, .q), (4, .q), (5, .q), (6, .q), (7, .g), (8, .q), (9, .q), (10, .q), (11, .q), (12, .q), (13, .q), (14, .q), (15, .q), (16, .q), (17, .q), (18, .q), (19, .q), (20, .q), (21, .q), (22, .q), (23, .q), (24, .q), (25, .g), (26, .q), (27, .q), (28, .q)] (by kernel_rfl) (by kernel_rfl) ?_
          simp only [pick, List.filterMap_cons, List.filterMap_nil, List.getElem?_toArray, List.getElem?_cons_zero, List.getElem?_cons_succ, Option.map_some]
          repeat (first
            | ((with_reducible refine wpD_p (fun K hK => ?_)); go_simp; refine hK _ ?_; clear hK K)
            | ((with_reducible refine wpD_q (fun K hK => ?_)); go_simp; (first | refine hK _ ?_ | (go_bits; refine hK _ ?_) | (go_bits; go_simp; refine hK _ ?_)); clear hK K)
            | ((with_reducible refine wpD_g (fun K hK => ?_)); go_simp; refine hK _ _ ?_; clear hK K)
            | ((with_reducible refine wpD_g (fun K hK => ?_)); go_simp; refine ⟨Grew.of_alloc _, hK _ _ ?_⟩; clear hK K)
            | ((with_reducible refine wpD_g (fun K hK => ?_)); go_simp; go_at_call 38; refine (l01Point_any _ _ _).mono ?_; rintro e w1 ⟨rfl, hb1⟩; refine ⟨_, rfl, hb1, hK _ _ ?_⟩; clear hK K; obtain ⟨chb1, fhb1, shb1, thb1⟩ := bcell hb1; (try have bhb10 := shb1 (wr.heap.size) (by go_simp)); (try have bhb11 := shb1 (b) (by go_simp)); (try have bhb12 := shb1 (p) (by go_simp)))
            | ((with_reducible refine wpD_g (fun K hK => ?_)); go_simp; go_at_call 52; refine (l00In_any _ _ _ _).mono ?_; rintro e _ ⟨rfl, rfl⟩; refine ⟨_, rfl, Below.refl _ _, hK _ _ ?_⟩; clear hK K)
            | ((with_reducible refine wpD_g (fun K hK => ?_)); go_simp; go_at_call 43; refine (sLessPoint_any _ _ _ _ _).mono ?_; rintro e w2 ⟨rfl, hb2⟩; refine ⟨_, rfl, hb2, hK _ _ ?_⟩; clear hK K; obtain ⟨chb2, fhb2, shb2, thb2⟩ := bcell hb2; (try have bhb20 := shb2 (wr.heap.size) (by go_simp)); (try have bhb21 := shb2 (b) (by go_simp)); (try have bhb22 := shb2 (p) (by go_simp))))
          with_reducible refine wpD_nil ?_
          go_wp2
          go_ret
          exact ⟨ret_bool (hasFormB_bad (k := 0) (by omega) (by rw [HK.out, hv1]; rfl)).symm, by exact bel_⟩
        · cases hv2 : inB e.t 0 159
          · go_wp2
            refine wp_region_ord [(0, .q), (1, .q), (2, .g), (3, .q), (4, .q), (5, .q), (6, .q), (7, .g), (8, .q), (9, .q), (10, .q), (11, .q), (12, .q), (13, .q), (14, .q), (15, .q), (16, .q), (17, .q), (18, .q), (19, .q), (20, .q), (21, .q), (22, .q), (23, .q), (24, .q), (25, .g), (26, .q), (27, .q), (28, .q)] (by kernel_rfl) (by kernel_rfl) ?_
            simp only [pick, List.filterMap_cons, List.filterMap_nil, List.getElem?_toArray, List.getElem?_cons_zero, List.getElem?_cons_succ, Option.map_some]
            repeat (first
              | ((with_reducible refine wpD_p (fun K hK => ?_)); go_simp; refine hK _ ?_; clear hK K)
              | ((with_reducible refine wpD_q (fun K hK => ?_)); go_simp; (first | refine hK _ ?_ | (go_bits; refine hK _ ?_) | (go_bits; go_simp; refine hK _ ?_)); clear hK K)
              | ((with_reducible refine wpD_g (fun K hK => ?_)); go_simp; refine hK _ _ ?_; clear hK K)
              | ((with_reducible refine wpD_g (fun K hK => ?_)); go_simp; refine ⟨Grew.of_alloc _, hK _ _ ?_⟩; clear hK K)
              | ((with_reducible refine wpD_g (fun K hK => ?_)); go_simp; go_at_call 38; refine (l01Point_any _ _ _).mono ?_; rintro e w1 ⟨rfl, hb1⟩; refine ⟨_, rfl, hb1, hK _ _ ?_⟩; clear hK K; obtain ⟨chb1, fhb1, shb1, thb1⟩ := bcell hb1; (try have bhb10 := shb1 (wr.heap.size) (by go_simp)); (try have bhb11 := shb1 (b) (by go_simp)); (try have bhb12 := shb1 (p) (by go_simp)))
              | ((with_reducible refine wpD_g (fun K hK => ?_)); go_simp; go_at_call 52; refine (l00In_any _ _ _ _).mono ?_; rintro e _ ⟨rfl, rfl⟩; refine ⟨_, rfl, Below.refl _ _, hK _ _ ?_⟩; clear hK K)
              | ((with_reducible refine wpD_g (fun K hK => ?_)); go_simp; go_at_call 43; refine (sLessPoint_any _ _ _ _ _).mono ?_; rintro e w2 ⟨rfl, hb2⟩; refine ⟨_, rfl, hb2, hK _ _ ?_⟩; clear hK K; obtain ⟨chb2, fhb2, shb2, thb2⟩ := bcell hb2; (try have bhb20 := shb2 (wr.heap.size) (by go_simp)); (try have bhb21 := shb2 (b) (by go_simp)); (try have bhb22 := shb2 (p) (by go_simp))))
            with_reducible refine wpD_nil ?_
            go_wp2
            go_ret
            exact ⟨ret_bool (hasFormB_bad (k := 0) (by omega) (by rw [HK.out, hv1, hv2]; rfl)).symm, by exact bel_⟩
          · go_wp2
            refine wp_region_ord [(0, .q), (1, .q), (2, .g), (3, .q), (4, .q), (5, .q), (6, .q), (7, .g), (8, .q), (9, .q), (10, .q), (11, .q), (12, .q), (13, .q), (14, .q), (15, .q), (16, .q), (17, .q), (18, .q), (19, .q), (20, .q), (21, .q), (22, .q), (23, .q), (24, .q), (25, .g), (26, .q), (27, .q), (28, .q)] (by kernel_rfl) (by kernel_rfl) ?_
            simp only [pick, List.filterMap_cons, List.filterMap_nil, List.getElem?_toArray, List.getElem?_cons_zero, List.getElem?_cons_succ, Option.map_some]
            repeat (first
              | ((with_reducible refine wpD_p (fun K hK => ?_)); go_simp; refine hK _ ?_; clear hK K)
              | ((with_reducible refine wpD_q (fun K hK => ?_)); go_simp; (first | refine hK _ ?_ | (go_bits; refine hK _ ?_) | (go_bits; go_simp; refine hK _ ?_)); clear hK K)
              | ((with_reducible refine wpD_g (fun K hK => ?_)); go_simp; refine hK _ _ ?_; clear hK K)
              | ((with_reducible refine wpD_g (fun K hK => ?_)); go_simp; refine ⟨Grew.of_alloc _, hK _ _ ?_⟩; clear hK K)
              | ((with_reducible refine wpD_g (fun K hK => ?_)); go_simp; go_at_call 38; refine (l01Point_any _ _ _).mono ?_; rintro e w1 ⟨rfl, hb1⟩; refine ⟨_, rfl, hb1, hK _ _ ?_⟩; clear hK K; obtain ⟨chb1, fhb1, shb1, thb1⟩ := bcell hb1; (try have bhb10 := shb1 (wr.heap.size) (by go_simp)); (try have bhb11 := shb1 (b) (by go_simp)); (try have bhb12 := shb1 (p) (by go_simp)))
              | ((with_reducible refine wpD_g (fun K hK => ?_)); go_simp; go_at_call 52; refine (l00In_any _ _ _ _).mono ?_; rintro e _ ⟨rfl, rfl⟩; refine ⟨_, rfl, Below.refl _ _, hK _ _ ?_⟩; clear hK K)
              | ((with_reducible refine wpD_g (fun K hK => ?_)); go_simp; go_at_call 43; refine (sLessPoint_any _ _ _ _ _).mono ?_; rintro e w2 ⟨rfl, hb2⟩; refine ⟨_, rfl, hb2, hK _ _ ?_⟩; clear hK K; obtain ⟨chb2, fhb2, shb2, thb2⟩ := bcell hb2; (try have bhb20 := shb2 (wr.heap.size) (by go_simp)); (try have bhb21 := shb2 (b) (by go_simp)); (try have bhb22 := shb2 (p) (by go_simp))))
            with_reducible refine wpD_nil ?_
            go_wp2
            go_roundg (n' - (0 + 1))
            case measure => omega
            case rel => exact ⟨0 + 1, by omega, by go_num, fun j hj => (by obtain rfl : j = 0 := by omega
                                                                           rw [HK.out, hv1, hv2]; rfl), by exact bel_⟩
      · obtain ⟨d, hd⟩ := g2.get (k := i) (by omega)
        obtain ⟨d0, d1, d2⟩ := hc i d hd
        have HK := Lib.hid (okPl_eqS he hd)
        have hi : i < n' := by omega
        have hpos : (0 : Int) < (i : Int) + 1 := by omega
        clear he hc g2 hd
        cases hv1 : validPt e.x e.y
        · go_wp2
          refine wp_region_ord [(0, .q), (1, .q), (2, .g), (3, .q), (4, .q), (5, .q), (6, .q), (7, .g), (8, .q), (9, .q), (10, .q), (11, .q), (12, .q), (13, .q), (14, .q), (15, .q), (16, .q), (17, .q), (18, .q), (19, .q), (20, .q), (21, .q), (22, .q), (23, .q), (24, .q), (25, .g), (26, .q), (27, .q), (28, .q)] (by kernel_rfl) (by kernel_rfl) ?_
          simp only [pick, List.filterMap_cons, List.filterMap_nil, List.getElem?_toArray, List.getElem?_cons_zero, List.getElem?_cons_succ, Option.map_some]
          repeat (first
            | ((with_reducible refine wpD_p (fun K hK => ?_)); go_simp; refine hK _ ?_; clear hK K)
            | ((with_reducible refine wpD_q (fun K hK => ?_)); go_simp; (first | refine hK _ ?_ | (go_bits; refine hK _ ?_) | (go_bits; go_simp; refine hK _ ?_)); clear hK K)
            | ((with_reducible refine wpD_g (fun K hK => ?_)); go_simp; refine hK _ _ ?_; clear hK K)
            | ((with_reducible refine wpD_g (fun K hK => ?_)); go_simp; refine ⟨Grew.of_alloc _, hK _ _ ?_⟩; clear hK K)
            | ((with_reducible refine wpD_g (fun K hK => ?_)); go_simp; go_at_call 38; refine (l01Point_any _ _ _).mono ?_; rintro e w1 ⟨rfl, hb1⟩; refine ⟨_, rfl, hb1, hK _ _ ?_⟩; clear hK K; obtain ⟨chb1, fhb1, shb1, thb1⟩ := bcell hb1; (try have bhb10 := shb1 (wr.heap.size) (by go_simp)); (try have bhb11 := shb1 (b) (by go_simp)); (try have bhb12 := shb1 (p) (by go_simp)))
            | ((with_reducible refine wpD_g (fun K hK => ?_)); go_simp; go_at_call 52; refine (l00In_any _ _ _ _).mono ?_; rintro e _ ⟨rfl, rfl⟩; refine ⟨_, rfl, Below.refl _ _, hK _ _ ?_⟩; clear hK K)
            | ((with_reducible refine wpD_g (fun K hK => ?_)); go_simp; go_at_call 43; refine (sLessPoint_any _ _ _ _ _).mono ?_; rintro e w2 ⟨rfl, hb2⟩; refine ⟨_, rfl, hb2, hK _ _ ?_⟩; clear hK K; obtain ⟨chb2, fhb2, shb2, thb2⟩ := bcell hb2; (try have bhb20 := shb2 (wr.heap.size) (by go_simp)); (try have bhb21 := shb2 (b) (by go_simp)); (try have bhb22 := shb2 (p) (by go_simp))))
          with_reducible refine wpD_nil ?_
          go_wp2
          go_ret
          exact ⟨ret_bool (hasFormB_bad (k := i + 1) (by omega) (by rw [HK.out, hv1]; rfl)).symm, by exact bel_⟩
        · cases hv2 : inB e.t 0 159
          · go_wp2
            refine wp_region_ord [(0, .q), (1, .q), (2, .g), (3, .q), (4, .q), (5, .q), (6, .q), (7, .g), (8, .q), (9, .q), (10, .q), (11, .q), (12, .q), (13, .q), (14, .q), (15, .q), (16, .q), (17, .q), (18, .q), (19, .q), (20, .q), (21, .q), (22, .q), (23, .q), (24, .q), (25, .g), (26, .q), (27, .q), (28, .q)] (by kernel_rfl) (by kernel_rfl) ?_
            simp only [pick, List.filterMap_cons, List.filterMap_nil, List.getElem?_toArray, List.getElem?_cons_zero, List.getElem?_cons_succ, Option.map_some]
            repeat (first
              | ((with_reducible refine wpD_p (fun K hK => ?_)); go_simp; refine hK _ ?_; clear hK K)
              | ((with_reducible refine wpD_q (fun K hK => ?_)); go_simp; (first | refine hK _ ?_ | (go_bits; refine hK _ ?_) | (go_bits; go_simp; refine hK _ ?_)); clear hK K)
              | ((with_reducible refine wpD_g (fun K hK => ?_)); go_simp; refine hK _ _ ?_; clear hK K)
              | ((with_reducible refine wpD_g (fun K hK => ?_)); go_simp; refine ⟨Grew.of_alloc _, hK _ _ ?_⟩; clear hK K)
              | ((with_reducible refine wpD_g (fun K hK => ?_)); go_simp; go_at_call 38; refine (l01Point_any _ _ _).mono ?_; rintro e w1 ⟨rfl, hb1⟩; refine ⟨_, rfl, hb1, hK _ _ ?_⟩; clear hK K; obtain ⟨chb1, fhb1, shb1, thb1⟩ := bcell hb1; (try have bhb10 := shb1 (wr.heap.size) (by go_simp)); (try have bhb11 := shb1 (b) (by go_simp)); (try have bhb12 := shb1 (p) (by go_simp)))
              | ((with_reducible refine wpD_g (fun K hK => ?_)); go_simp; go_at_call 52; refine (l00In_any _ _ _ _).mono ?_; rintro e _ ⟨rfl, rfl⟩; refine ⟨_, rfl, Below.refl _ _, hK _ _ ?_⟩; clear hK K)
              | ((with_reducible refine wpD_g (fun K hK => ?_)); go_simp; go_at_call 43; refine (sLessPoint_any _ _ _ _ _).mono ?_; rintro e w2 ⟨rfl, hb2⟩; refine ⟨_, rfl, hb2, hK _ _ ?_⟩; clear hK K; obtain ⟨chb2, fhb2, shb2, thb2⟩ := bcell hb2; (try have bhb20 := shb2 (wr.heap.size) (by go_simp)); (try have bhb21 := shb2 (b) (by go_simp)); (try have bhb22 := shb2 (p) (by go_simp))))
            with_reducible refine wpD_nil ?_
            go_wp2
            go_ret
            exact ⟨ret_bool (hasFormB_bad (k := i + 1) (by omega) (by rw [HK.out, hv1, hv2]; rfl)).symm, by exact bel_⟩
          · cases hv3 : lessPt d.x d.y e.x e.y
            · go_wp2
              refine wp_region_ord [(0, .q), (1, .q), (2, .g), (3, .q), (4, .q), (5, .q), (6, .q), (7, .g), (8, .q), (9, .q), (10, .q), (11, .q), (12, .q), (13, .q), (14, .q), (15, .q), (16, .q), (17, .q), (18, .q), (19, .q), (20, .q), (21, .q), (22, .q), (23, .q), (24, .q), (25, .g), (26, .q), (27, .q), (28, .q)] (by kernel_rfl) (by kernel_rfl) ?_
              simp only [pick, List.filterMap_cons, List.filterMap_nil, List.getElem?_toArray, List.getElem?_cons_zero, List.getElem?_cons_succ, Option.map_some]
              repeat (first
                | ((with_reducible refine wpD_p (fun K hK => ?_)); go_simp; refine hK _ ?_; clear hK K)
                | ((with_reducible refine wpD_q (fun K hK => ?_)); go_simp; (first | refine hK _ ?_ | (go_bits; refine hK _ ?_) | (go_bits; go_simp; refine hK _ ?_)); clear hK K)
                | ((with_reducible refine wpD_g (fun K hK => ?_)); go_simp; refine hK _ _ ?_; clear hK K)
                | ((with_reducible refine wpD_g (fun K hK => ?_)); go_simp; refine ⟨Grew.of_alloc _, hK _ _ ?_⟩; clear hK K)
                | ((with_reducible refine wpD_g (fun K hK => ?_)); go_simp; go_at_call 38; refine (l01Point_any _ _ _).mono ?_; rintro e w1 ⟨rfl, hb1⟩; refine ⟨_, rfl, hb1, hK _ _ ?_⟩; clear hK K; obtain ⟨chb1, fhb1, shb1, thb1⟩ := bcell hb1; (try have bhb10 := shb1 (wr.heap.size) (by go_simp)); (try have bhb11 := shb1 (b) (by go_simp)); (try have bhb12 := shb1 (p) (by go_simp)))
                | ((with_reducible refine wpD_g (fun K hK => ?_)); go_simp; go_at_call 52; refine (l00In_any _ _ _ _).mono ?_; rintro e _ ⟨rfl, rfl⟩; refine ⟨_, rfl, Below.refl _ _, hK _ _ ?_⟩; clear hK K)
                | ((with_reducible refine wpD_g (fun K hK => ?_)); go_simp; go_at_call 43; refine (sLessPoint_any _ _ _ _ _).mono ?_; rintro e w2 ⟨rfl, hb2⟩; refine ⟨_, rfl, hb2, hK _ _ ?_⟩; clear hK K; obtain ⟨chb2, fhb2, shb2, thb2⟩ := bcell hb2; (try have bhb20 := shb2 (wr.heap.size) (by go_simp)); (try have bhb21 := shb2 (b) (by go_simp)); (try have bhb22 := shb2 (p) (by go_simp))))
              with_reducible refine wpD_nil ?_
              go_wp2
              go_ret
              exact ⟨ret_bool (hasFormB_bad (k := i + 1) (by omega) (by rw [HK.out, hv1, hv2, hv3]; rfl)).symm, by exact bel_⟩
            · go_wp2
              refine wp_region_ord [(0, .q), (1, .q), (2, .g), (3, .q), (4, .q), (5, .q), (6, .q), (7, .g), (8, .q), (9, .q), (10, .q), (11, .q), (12, .q), (13, .q), (14, .q), (15, .q), (16, .q), (17, .q), (18, .q), (19, .q), (20, .q), (21, .q), (22, .q), (23, .q), (24, .q), (25, .g), (26, .q), (27, .q), (28, .q)] (by kernel_rfl) (by kernel_rfl) ?_
              simp only [pick, List.filterMap_cons, List.filterMap_nil, List.getElem?_toArray, List.getElem?_cons_zero, List.getElem?_cons_succ, Option.map_some]
              repeat (first
                | ((with_reducible refine wpD_p (fun K hK => ?_)); go_simp; refine hK _ ?_; clear hK K)
                | ((with_reducible refine wpD_q (fun K hK => ?_)); go_simp; (first | refine hK _ ?_ | (go_bits; refine hK _ ?_) | (go_bits; go_simp; refine hK _ ?_)); clear hK K)
                | ((with_reducible refine wpD_g (fun K hK => ?_)); go_simp; refine hK _ _ ?_; clear hK K)
                | ((with_reducible refine wpD_g (fun K hK => ?_)); go_simp; refine ⟨Grew.of_alloc _, hK _ _ ?_⟩; clear hK K)
                | ((with_reducible refine wpD_g (fun K hK => ?_)); go_simp; go_at_call 38; refine (l01Point_any _ _ _).mono ?_; rintro e w1 ⟨rfl, hb1⟩; refine ⟨_, rfl, hb1, hK _ _ ?_⟩; clear hK K; obtain ⟨chb1, fhb1, shb1, thb1⟩ := bcell hb1; (try have bhb10 := shb1 (wr.heap.size) (by go_simp)); (try have bhb11 := shb1 (b) (by go_simp)); (try have bhb12 := shb1 (p) (by go_simp)))
                | ((with_reducible refine wpD_g (fun K hK => ?_)); go_simp; go_at_call 52; refine (l00In_any _ _ _ _).mono ?_; rintro e _ ⟨rfl, rfl⟩; refine ⟨_, rfl, Below.refl _ _, hK _ _ ?_⟩; clear hK K)
                | ((with_reducible refine wpD_g (fun K hK => ?_)); go_simp; go_at_call 43; refine (sLessPoint_any _ _ _ _ _).mono ?_; rintro e w2 ⟨rfl, hb2⟩; refine ⟨_, rfl, hb2, hK _ _ ?_⟩; clear hK K; obtain ⟨chb2, fhb2, shb2, thb2⟩ := bcell hb2; (try have bhb20 := shb2 (wr.heap.size) (by go_simp)); (try have bhb21 := shb2 (b) (by go_simp)); (try have bhb22 := shb2 (p) (by go_simp))))
              with_reducible refine wpD_nil ?_
              go_wp2
              go_roundg (n' - ((i + 1) + 1))
              case measure => omega
              case rel => exact ⟨(i + 1) + 1, by omega, by go_num, fun j hj => (by rcases Nat.lt_succ_iff_lt_or_eq.1 hj with hj | rfl; exact hokT.out j hj; rw [HK.out, hv1, hv2, hv3]; rfl), by exact bel_⟩
    · obtain rfl : n' = k := by omega
      clear g2
      go_wp2
      go_ret
      exact ⟨ret_bool (hasFormB_ok (by omega) (fun j hj => hokT.out j (by omega))).symm, by exact bel_⟩
end Go.Proofs.Ytpnahobgmemdjaa
/- The rule for regions that draw their order, in a round of a loop over an iterator. -/



namespace Go.Proofs.Ytpnahobgmemdjaa
open Go.RowKit
section
variable {P : Program} {ops : Array Oper}
def notDefer (o : Oper) : Bool := match o.op with | .defer _ => false | _ => true
def noDeferB (ops : Array Oper) : Bool := ops.toList.all notDefer
theorem noDeferB_spec {j : Nat} {o : Oper} (h : noDeferB ops = true) (hj : ops[j]? = some o) : ∀ c, o.op ≠ .defer c := by
  intro c hc
  have hm : o ∈ ops.toList := by
    rw [Array.mem_toList_iff]
    exact Array.mem_of_getElem? hj
  have := List.all_eq_true.1 h o hm
  simp [notDefer, hc] at this
theorem wpIn_of_gives (F : Fence) (n : Nat) (hF : ∀ f, F.fn f) (hdep : F.depth = none) (hcalls : ∀ f args w R, Calls P f args w R → CallsIn F (n - 1) P f args w R) {o : Oper} {a : Act} {w : World} {K : Act → World → Prop} {Q : Exit → Act → World → Prop} (hnd : ∀ c, o.op ≠ .defer c)
    (h : givesUpon P (fun v w' => K (a.put o.dst v) w') ((execOp a.eval o).run P w)) : o.wpIn F n P a w K Q := by
  unfold Oper.wpIn
  refine ⟨fun f _ => hF f, ?_⟩
  rw [Oper.semAt_eq _ _ _ hnd]
  generalize (execOp a.eval o).run P w = r at *
  cases r with
  | ok n w' =>
    cases n <;> simp only [givesUpon] at h <;> simp only [Oper.uponIn]
    case value v => exact h
    case skip => exact h
    case enter f args =>
      refine ⟨fun hh => (by rw [hdep] at hh; cases hh), hcalls _ _ _ _ (h.mono fun e w'' he => ?_)⟩
      obtain ⟨v, rfl, hk⟩ := he
      exact hk
  | halt x w' => simp only [givesUpon] at h
theorem wpOpIn_of_step (F : Fence) (n : Nat) (hF : ∀ f, F.fn f) (hdep : F.depth = none) (hcalls : ∀ f args w R, Calls P f args w R → CallsIn F (n - 1) P f args w R) (hnd : noDeferB ops = true) {j : Nat} {oj : Oper} {a : Act} {w : World} {K : Act → World → Prop} {Q : Exit → Act → World → Prop} (hj : ops[j]? = some oj)
    (h : opStep P ops oj (fun v w' => K (a.put oj.dst v) w') a w) : wpOpIn F n P ops Q j K a w := by
  unfold wpOpIn
  unfold opStep at h
  simp only [hj]
  split at h <;> rename_i hw <;> simp only [hw, if_true, if_false, Bool.false_eq_true]
  · exact wpIn_of_gives F n hF hdep hcalls (noDeferB_spec hnd hj) h
  · exact ⟨fun f _ => hF f, h⟩
theorem ord_soundIn (F : Fence) (n : Nat) (hF : ∀ f, F.fn f) (hdep : F.depth = none) (hcalls : ∀ f args w R, Calls P f args w R → CallsIn F (n - 1) P f args w R) (hnd : noDeferB ops = true) {Q : Exit → Act → World → Prop} (ord : List (Nat × Tag)) (hsel : Region.noSelect ops = true) (hcov : ∀ i, i < ops.size → ∃ x ∈ ord, x.1 = i)
    (hpw : ord.Pairwise (Rel2 ops)) (hsome : ∀ y ∈ ord, (ops[y.1]?).isSome = true) (htop : ∀ pre y post, ord = pre ++ y :: post → ∀ d ∈ depsOf ops y.1, ∃ x ∈ pre, x.1 = d) :
    ∀ (m : Nat) (listed : Array Bool) (a : Act) (w : World), (rem ord listed).length = m → Ideal ops listed → wpD P ops (Q .normal) (pick ops (rem ord listed)) a w → wpAnyIn F n P .any ops Q m listed a w := by
  have hlt : ∀ y ∈ ord, y.1 < ops.size := fun y hy => by
    have := hsome y hy
    rw [Option.isSome_iff_exists] at this
    obtain ⟨o, ho⟩ := this
    exact (Array.getElem?_eq_some_iff.1 ho).1
  intro m
  induction m with
  | zero =>
    intro listed a w hm hid h
    have hnil : rem ord listed = [] := List.eq_nil_of_length_eq_zero hm
    refine ⟨?_, by rw [hnil] at h; exact h⟩
    apply List.eq_nil_iff_forall_not_mem.2
    intro j hj
    obtain ⟨h1, h2, _⟩ := ready_deps hj
    obtain ⟨x, hx, rfl⟩ := hcov j h1
    have : x ∈ rem ord listed := List.mem_filter.2 ⟨hx, by simpa using h2⟩
    rw [hnil] at this
    cases this
  | succ m ih =>
    intro listed a w hm hid h
    refine ⟨fun h0 => ?_, fun j hj => ?_⟩
    · -- the first that has not come up is ready
      exfalso
      obtain ⟨y, rest, hrem⟩ : ∃ y rest, rem ord listed = y :: rest := by
        cases hr : rem ord listed with
        | nil => rw [hr] at hm; cases hm
        | cons y rest => exact ⟨y, rest, rfl⟩
      obtain ⟨pre, post, hord, hpre⟩ := List.filter_eq_cons_iff.1 hrem
      have hy : y ∈ ord := by rw [hord]; simp
      obtain ⟨o, ho⟩ := Option.isSome_iff_exists.1 (hsome y hy)
      have hun : listed.getD y.1 true = false := by
        have : y ∈ rem ord listed := by rw [hrem]; simp
        simpa using (List.mem_filter.1 this).2
      have : y.1 ∈ Region.ready .any ops listed := ready_of ho hun fun d hd => by
        obtain ⟨x, hx, rfl⟩ := htop pre y post hord d hd
        have h1 := hpre.1 x hx
        have hxl : x.1 < listed.size := by rw [hid.size]; exact hlt x (by rw [hord]; simp [hx])
        rw [← getD_tf hxl]
        simpa using h1
      rw [h0] at this
      cases this
    · obtain ⟨h1, h2, h3⟩ := ready_deps hj
      obtain ⟨x, hx, rfl⟩ := hcov j h1
      have hxr : x ∈ rem ord listed := List.mem_filter.2 ⟨hx, by simpa using h2⟩
      obtain ⟨pre, post, hsplit⟩ := List.append_of_mem hxr
      have hpwr : (rem ord listed).Pairwise (Rel2 ops) := hpw.filter _
      rw [hsplit, List.pairwise_append] at hpwr
      obtain ⟨_, hpc, hcross⟩ := hpwr
      obtain ⟨oj, hoj⟩ := Option.isSome_iff_exists.1 (hsome x hx)
      have hpre : ∀ y ∈ pre, Rel2 ops y x ∧ listed.getD y.1 false = false ∧ y ∈ ord := fun y hy => by
        have hyr : y ∈ rem ord listed := by rw [hsplit]; simp [hy]
        obtain ⟨hyo, hyu⟩ := List.mem_filter.1 hyr
        have hyl : y.1 < listed.size := by rw [hid.size]; exact hlt y hyo
        exact ⟨hcross y hy x (by simp), by rw [← getD_tf hyl]; simpa using hyu, hyo⟩
      have hno : ∀ y ∈ pre, ¬ Anc ops x.1 y.1 := fun y hy ha => by
        have := hid.anc ha h3
        rw [(hpre y hy).2.1] at this
        cases this
      have hstep := exch (P := P) (Q := Q .normal) (oj := oj) (tj := x.2) (post := pick ops post) (fun cs b => Region.noSelect_spec hsel x.1 oj cs b hoj) (pick ops pre) a w
        (by
          intro z hz
          obtain ⟨y, hy, hyz⟩ := List.mem_filterMap.1 hz
          obtain ⟨oy, hoy⟩ := Option.isSome_iff_exists.1 (hsome y (hpre y hy).2.2)
          rw [hoy] at hyz
          simp only [Option.map_some, Option.some.injEq] at hyz
          subst hyz
          refine ⟨?_, ?_, fun cs b => Region.noSelect_spec hsel y.1 oy cs b hoy⟩
          · cases hq : y.2 with
            | q => exact Or.inl rfl
            | p => exact Or.inr rfl
            | g => exact absurd ((hpre y hy).1.anc (by rw [hq]; rfl)) (hno y hy)
            | b => exact absurd ((hpre y hy).1.anc (by rw [hq]; rfl)) (hno y hy)
          · rcases (hpre y hy).1.apart with hd | hd
            · exact absurd (.one hd) (hno y hy)
            · unfold apartB at hd
              rw [hoy, hoj] at hd
              exact hd)
        (by
          intro hb z hz
          obtain ⟨y, hy, hyz⟩ := List.mem_filterMap.1 hz
          obtain ⟨oy, hoy⟩ := Option.isSome_iff_exists.1 (hsome y (hpre y hy).2.2)
          rw [hoy] at hyz
          simp only [Option.map_some, Option.some.injEq] at hyz
          subst hyz
          cases hq : y.2 with
          | p => rfl
          | q => exact absurd ((hpre y hy).1.anc (by rw [hq, hb]; rfl)) (hno y hy)
          | g => exact absurd ((hpre y hy).1.anc (by rw [hq]; rfl)) (hno y hy)
          | b => exact absurd ((hpre y hy).1.anc (by rw [hq]; rfl)) (hno y hy))
        (by
          have e : pick ops (rem ord listed) = pick ops pre ++ (oj, x.2) :: pick ops post := by
            rw [hsplit]; unfold pick; simp [List.filterMap_append, hoj]
          rw [← e]; exact h)
      have hrem' : rem ord (listed.setIfInBounds x.1 true) = pre ++ post := by
        have hx1 : x.1 < listed.size := by rw [hid.size]; exact h1
        have e1 : rem ord (listed.setIfInBounds x.1 true) = (rem ord listed).filter fun y => y.1 != x.1 := by
          unfold rem
          rw [List.filter_filter]
          apply List.filter_congr
          intro y hy
          by_cases hyx : x.1 = y.1
          · rw [← hyx]; simp [hx1]
          · have hne : (y.1 != x.1) = true := by simpa using fun h => hyx h.symm
            rw [getD_set_ne true hyx, hne]; simp
        rw [e1, hsplit, List.filter_append, List.filter_cons]
        have hp : pre.filter (fun y => y.1 != x.1) = pre := List.filter_eq_self.2 fun y hy => by simpa using (hpre y hy).1.ne
        have hq : post.filter (fun y => y.1 != x.1) = post := List.filter_eq_self.2 fun y hy => by
          have := (List.pairwise_cons.1 hpc).1 y hy
          simpa using fun e => this.ne e.symm
        rw [hp, hq]; simp
      refine wpOpIn_of_step F n hF hdep hcalls hnd hoj ?_
      have hlen : (pre ++ post).length = m := by
        have := hm
        rw [hsplit] at this
        simp at this ⊢
        omega
      have hid' : Ideal ops (listed.setIfInBounds x.1 true) := by
        refine ⟨by simp [hid.size], fun y hy d hd => ?_⟩
        by_cases hxy : x.1 = y
        · subst hxy; exact getD_set_true (h3 d hd)
        · rw [getD_set_ne false hxy] at hy
          exact getD_set_true (hid.closed y hy d hd)
      unfold opStep at hstep ⊢
      have e2 : ∀ v w', wpD P ops (Q .normal) (pick ops pre ++ pick ops post) (a.put oj.dst v) w' → wpAnyIn F n P .any ops Q m (listed.setIfInBounds x.1 true) (a.put oj.dst v) w' := fun v w' hh =>
        ih _ _ _ (by rw [hrem']; exact hlen) hid' (by rw [hrem']; unfold pick at hh ⊢; rw [List.filterMap_append]; exact hh)
      split at hstep <;> rename_i hw <;> simp only [hw, if_true, if_false, Bool.false_eq_true]
      · exact givesUpon_mono hstep fun v w' hh => e2 v w' hh.2
      · exact e2 _ _ hstep.2

/-- **The rule.** -/
theorem wpIn_region_ord {F : Fence} {n : Nat} (hF : ∀ f, F.fn f) (hdep : F.depth = none) (hcalls : ∀ f args w R, Calls P f args w R → CallsIn F (n - 1) P f args w R) {id : Nat} {Q : Exit → Act → World → Prop} {a : Act} {w : World} {l : List Oper} (ord : List (Nat × Tag)) (hm : P.follows .mixedOrders = true) (hB : ordB l.toArray ord = true) (hnd : noDeferB l.toArray = true)
    (h : wpD P l.toArray (Q .normal) (pick l.toArray ord) a w.drew) : (Code.region id l.toArray true).wpIn F n P Q a w := by
  simp only [ordB, Bool.and_eq_true, beq_iff_eq] at hB
  obtain ⟨⟨⟨hsel, hlen⟩, hcov⟩, hfrom⟩ := hB
  obtain ⟨hpw, _, hsome, htop⟩ := ordFrom_spec ord [] hfrom (fun _ h => by cases h)
  refine wpIn_region_any hm ?_
  have hall : rem ord (Array.replicate l.toArray.size false) = ord := List.filter_eq_self.2 fun y hy => by
    obtain ⟨o, ho⟩ := Option.isSome_iff_exists.1 (hsome y hy)
    have := (Array.getElem?_eq_some_iff.1 ho).1
    simp at this
    simp [this]
  have hs := ord_soundIn (P := P) F n hF hdep hcalls hnd (Q := Q) ord hsel (fun i hi => by
    have := List.all_eq_true.1 hcov i (List.mem_range.2 hi)
    obtain ⟨x, hx, hxi⟩ := List.any_eq_true.1 this
    exact ⟨x, hx, by simpa using hxi⟩) hpw hsome (fun pre y post he d hd => by
      rcases htop pre y post he d hd with ⟨x, hx, _⟩ | hx
      · cases hx
      · exact hx) l.toArray.size (Array.replicate l.toArray.size false) a w.drew (by rw [hall, hlen])
      ⟨by simp, fun y hy => by
        rcases Nat.lt_or_ge y l.toArray.size with h | h
        · simp at h; simp [h] at hy
        · simp at h; simp [h] at hy⟩ (by rw [hall]; exact h)
  exact hs
/-- in a round, every function let by -/
theorem wpIn_region_ordR {r n : Nat} {id : Nat} {Q : Exit → Act → World → Prop} {a : Act} {w : World} {l : List Oper} (ord : List (Nat × Tag)) (hm : P.follows .mixedOrders = true) (hB : ordB l.toArray ord = true) (hnd : noDeferB l.toArray = true)
    (h : wpD P l.toArray (Q .normal) (pick l.toArray ord) a w.drew) : (Code.region id l.toArray true).wpIn (Fence.wide.inRound r) n P Q a w :=
  wpIn_region_ord (fun _ => trivial) rfl (fun _ _ _ _ h => CallsIn.inRound r (callsIn_wide.2 h)) ord hm hB hnd h
theorem wpIn_region_ordW {n : Nat} {id : Nat} {Q : Exit → Act → World → Prop} {a : Act} {w : World} {l : List Oper} (ord : List (Nat × Tag)) (hm : P.follows .mixedOrders = true) (hB : ordB l.toArray ord = true) (hnd : noDeferB l.toArray = true)
    (h : wpD P l.toArray (Q .normal) (pick l.toArray ord) a w.drew) : (Code.region id l.toArray true).wpIn Fence.wide n P Q a w :=
  wpIn_region_ord (fun _ => trivial) rfl (fun _ _ _ _ h => callsIn_wide.2 h) ord hm hB hnd h
end
end Go.Proofs.Ytpnahobgmemdjaa
