import Derived.Test.YtglcpphfmmnmkaaGreatW1
import Derived.Test.YtglcpphfmmnmkaaGreatBase2
import Derived.Test.YtglcpphfmmnmkaaGreatHTo
import Derived.Test.YtglcpphfmmnmkaaGreatW15
import Derived.Laws.IdiomStrings
import Derived.Laws.Concat
import Derived.Test.YtglcpphfmmnmkaaGreatP2
import Derived.Test.YtglcpphfmmnmkaaGreatW20a
import Derived.OneCell
import Derived.Test.YtglcpphfmmnmkaaGreatOrd
set_option linter.unusedSimpArgs false
set_option linter.unusedVariables false
/- Walks: the harness' comparisons, where both sides read as the same list. -/


namespace Go.Proofs.YtglcpphfmmnmkaaGreat
open Go.RowKit
attribute [local go_sem] BelowBy.cell BelowBy.cell_drew stillUpon givesUpon

theorem eqGlue_same (s : ByteArray) (t : Int) (w : World) :
    Calls Tryz.prog 136 #[.agg #[.string s, .int .i64 t], .agg #[.string s, .int .i64 t]] w fun e w' => e = .returned (.bool true) ∧ Below w.heap.size w w' := by
  go_enter Tryz.func136, Tryz.ntmps136
  go_wp2
  go_ret
  exact ⟨rfl, bl_al (bl_al (bl_refl _) _) _⟩
theorem eqPoint_same (x y : Int) (w : World) :
    Calls Tryz.prog 47 #[.agg #[.int .i64 x, .int .i64 y], .agg #[.int .i64 x, .int .i64 y]] w fun e w' => e = .returned (.bool true) ∧ Below w.heap.size w w' := by
  go_enter Tryz.func47, Tryz.ntmps47
  go_wp2
  go_ret
  exact ⟨rfl, bl_al (bl_al (bl_refl _) _) _⟩
theorem eqPlaced_same (x y t : Int) (w : World) :
    Calls Tryz.prog 95 #[.agg #[.int .i64 x, .int .i64 y, .int .i64 t], .agg #[.int .i64 x, .int .i64 y, .int .i64 t]] w fun e w' => e = .returned (.bool true) ∧ Below w.heap.size w w' := by
  
  go_enter Tryz.func95, Tryz.ntmps95
  go_wp2_with (go_at_call 47; refine (eqPoint_same _ _ _).mono ?_; rintro e w1 ⟨rfl, hb1⟩; obtain ⟨chb1, fhb1, shb1, thb1⟩ := bcell hb1; (try have bhb10 := shb1 (w.heap.size) (by go_simp)); (try have bhb11 := shb1 (w.heap.size + 1) (by go_simp)))
  go_ret
  refine ⟨rfl, ?_⟩
  exact bel_

set_option maxHeartbeats 1000000 in
theorem eqInt64S_same (A B : Option Addr) (n c d : Nat) (xs : List Int) (w : World) (h1 : RdSl 1 RInt w A n xs) (h2 : RdSl 1 RInt w B n xs) (hn : n ≤ 1073741824) :
    Calls Tryz.prog 32 #[.slice A n c, .slice B n d] w fun e w' => e = .returned (.bool true) ∧ Below w.heap.size w w' := by
  
  go_enter Tryz.func32, Tryz.ntmps32
  go_wp2
  go_loopg [5] n (fun g i wr => ∃ k : Nat, k + g = n ∧ i = .int .i64 k ∧ Below w.heap.size w wr)
  case atStart => exact ⟨0, by omega, rfl, Below.refl _ _⟩
  case round =>
    obtain ⟨k, hk, rfl, hbw⟩ := hrel
    have r1 := h1.below RInt.stable hbw
    have r2 := h2.below RInt.stable hbw
    by_cases hlt : k < n
    · obtain ⟨b, o, rfl, hb, hc⟩ := r1.ptr (by omega)
      obtain ⟨b2, o2, rfl, hb2, hc2⟩ := r2.ptr (by omega)
      obtain ⟨e, he⟩ := h1.get hlt
      have c1 := hc k e he
      have c2 := hc2 k e he
      unfold RInt at c1 c2
      simp only [Nat.mul_one] at c1 c2
      clear hc hc2 he r1 r2
      go_wp2
      refine wp_region_ord [(0, .q), (1, .q), (2, .q), (3, .q), (4, .q), (5, .q), (6, .q), (7, .q), (8, .q)] (by kernel_rfl) (by kernel_rfl) ?_
      simp only [pick, List.filterMap_cons, List.filterMap_nil, List.getElem?_toArray, List.getElem?_cons_zero, List.getElem?_cons_succ, Option.map_some]
      repeat (first
        | ((with_reducible refine wpD_p (fun K hK => ?_)); go_simp; refine hK _ ?_; clear hK K)
        | ((with_reducible refine wpD_q (fun K hK => ?_)); go_simp; (first | refine hK _ ?_ | (go_bits; refine hK _ ?_) | (go_bits; go_simp; refine hK _ ?_)); clear hK K)
        | ((with_reducible refine wpD_g (fun K hK => ?_)); go_simp; refine hK _ _ ?_; clear hK K)
        | ((with_reducible refine wpD_g (fun K hK => ?_)); go_simp; refine ⟨Grew.of_alloc _, hK _ _ ?_⟩; clear hK K))
      with_reducible refine wpD_nil ?_
      go_wp2
      go_roundg (n - (k + 1))
      case measure => omega
      case rel => exact ⟨k + 1, by omega, by go_num, (by exact bel_)⟩
    · obtain rfl : k = n := by omega
      go_wp2
      go_ret
      exact ⟨rfl, hbw⟩

set_option maxHeartbeats 1000000 in
theorem eqGlueS_same (A B : Option Addr) (n c d : Nat) (xs : List Gl) (w : World) (h1 : RdSl 2 RGl w A n xs) (h2 : RdSl 2 RGl w B n xs) (hn : n ≤ 1073741824) :
    Calls Tryz.prog 96 #[.slice A n c, .slice B n d] w fun e w' => e = .returned (.bool true) ∧ Below w.heap.size w w' := by
  
  go_enter Tryz.func96, Tryz.ntmps96
  go_wp2
  go_loopg [5] n (fun g i wr => ∃ k : Nat, k + g = n ∧ i = .int .i64 k ∧ Below w.heap.size w wr)
  case atStart => exact ⟨0, by omega, rfl, Below.refl _ _⟩
  case round =>
    obtain ⟨k, hk, rfl, hbw⟩ := hrel
    have r1 := h1.below RGl.stable hbw
    have r2 := h2.below RGl.stable hbw
    by_cases hlt : k < n
    · obtain ⟨b, o, rfl, hb, hc⟩ := r1.ptr (by omega)
      obtain ⟨b2, o2, rfl, hb2, hc2⟩ := r2.ptr (by omega)
      obtain ⟨e, he⟩ := h1.get hlt
      obtain ⟨c1, c1b⟩ := hc k e he
      obtain ⟨c2, c2b⟩ := hc2 k e he
      clear hc hc2 he r1 r2
      go_wp2
      refine wp_region_ord [(0, .q), (1, .q), (2, .q), (3, .q), (4, .q), (5, .q), (6, .q), (7, .q), (8, .g), (9, .q)] (by kernel_rfl) (by kernel_rfl) ?_
      simp only [pick, List.filterMap_cons, List.filterMap_nil, List.getElem?_toArray, List.getElem?_cons_zero, List.getElem?_cons_succ, Option.map_some]
      repeat (first
        | ((with_reducible refine wpD_p (fun K hK => ?_)); go_simp; refine hK _ ?_; clear hK K)
        | ((with_reducible refine wpD_q (fun K hK => ?_)); go_simp; (first | refine hK _ ?_ | (go_bits; refine hK _ ?_) | (go_bits; go_simp; refine hK _ ?_)); clear hK K)
        | ((with_reducible refine wpD_g (fun K hK => ?_)); go_simp; refine hK _ _ ?_; clear hK K)
        | ((with_reducible refine wpD_g (fun K hK => ?_)); go_simp; refine ⟨Grew.of_alloc _, hK _ _ ?_⟩; clear hK K)
        | ((with_reducible refine wpD_g (fun K hK => ?_)); go_simp; go_at_call 136; refine (eqGlue_same _ _ _).mono ?_; rintro e w1 ⟨rfl, hb1⟩; refine ⟨_, rfl, hb1, hK _ _ ?_⟩; clear hK K; obtain ⟨chb1, fhb1, shb1, thb1⟩ := bcell hb1; (try have bhb10 := shb1 (b) (by go_simp)); (try have bhb11 := shb1 (b2) (by go_simp))))
      with_reducible refine wpD_nil ?_
      go_wp2
      go_roundg (n - (k + 1))
      case measure => omega
      case rel => exact ⟨k + 1, by omega, by go_num, (by exact bel_)⟩
    · obtain rfl : k = n := by omega
      go_wp2
      go_ret
      exact ⟨rfl, hbw⟩

set_option maxHeartbeats 1000000 in
theorem eqPlacedS_same (A B : Option Addr) (n c d : Nat) (xs : List Pl) (w : World) (h1 : RdSl 3 RPl w A n xs) (h2 : RdSl 3 RPl w B n xs) (hn : n ≤ 1073741824) :
    Calls Tryz.prog 45 #[.slice A n c, .slice B n d] w fun e w' => e = .returned (.bool true) ∧ Below w.heap.size w w' := by
  
  go_enter Tryz.func45, Tryz.ntmps45
  go_wp2
  go_loopg [5] n (fun g i wr => ∃ k : Nat, k + g = n ∧ i = .int .i64 k ∧ Below w.heap.size w wr)
  case atStart => exact ⟨0, by omega, rfl, Below.refl _ _⟩
  case round =>
    obtain ⟨k, hk, rfl, hbw⟩ := hrel
    have r1 := h1.below RPl.stable hbw
    have r2 := h2.below RPl.stable hbw
    by_cases hlt : k < n
    · obtain ⟨b, o, rfl, hb, hc⟩ := r1.ptr (by omega)
      obtain ⟨b2, o2, rfl, hb2, hc2⟩ := r2.ptr (by omega)
      obtain ⟨e, he⟩ := h1.get hlt
      obtain ⟨c1, c1b, c1c⟩ := hc k e he
      obtain ⟨c2, c2b, c2c⟩ := hc2 k e he
      clear hc hc2 he r1 r2
      go_wp2
      refine wp_region_ord [(0, .q), (1, .q), (2, .q), (3, .q), (4, .q), (5, .q), (6, .q), (7, .q), (8, .g), (9, .q)] (by kernel_rfl) (by kernel_rfl) ?_
      simp only [pick, List.filterMap_cons, List.filterMap_nil, List.getElem?_toArray, List.getElem?_cons_zero, List.getElem?_cons_succ, Option.map_some]
      repeat (first
        | ((with_reducible refine wpD_p (fun K hK => ?_)); go_simp; refine hK _ ?_; clear hK K)
        | ((with_reducible refine wpD_q (fun K hK => ?_)); go_simp; (first | refine hK _ ?_ | (go_bits; refine hK _ ?_) | (go_bits; go_simp; refine hK _ ?_)); clear hK K)
        | ((with_reducible refine wpD_g (fun K hK => ?_)); go_simp; refine hK _ _ ?_; clear hK K)
        | ((with_reducible refine wpD_g (fun K hK => ?_)); go_simp; refine ⟨Grew.of_alloc _, hK _ _ ?_⟩; clear hK K)
        | ((with_reducible refine wpD_g (fun K hK => ?_)); go_simp; go_at_call 95; refine (eqPlaced_same _ _ _ _).mono ?_; rintro e w1 ⟨rfl, hb1⟩; refine ⟨_, rfl, hb1, hK _ _ ?_⟩; clear hK K; obtain ⟨chb1, fhb1, shb1, thb1⟩ := bcell hb1; (try have bhb10 := shb1 (b) (by go_simp)); (try have bhb11 := shb1 (b2) (by go_simp))))
      with_reducible refine wpD_nil ?_
      go_wp2
      go_roundg (n - (k + 1))
      case measure => omega
      case rel => exact ⟨k + 1, by omega, by go_num, (by exact bel_)⟩
    · obtain rfl : k = n := by omega
      go_wp2
      go_ret
      exact ⟨rfl, hbw⟩

set_option maxHeartbeats 1000000 in
theorem eqTile_same (s : ByteArray) (A B : Option Addr) (n c d : Nat) (xs : List Int) (w : World) (h1 : RdSl 1 RInt w A n xs) (h2 : RdSl 1 RInt w B n xs) (hn : n ≤ 1073741824) :
    Calls Tryz.prog 137 #[.agg #[.string s, .slice A n c], .agg #[.string s, .slice B n d]] w fun e w' => e = .returned (.bool true) ∧ Below w.heap.size w w' := by
  have hb0 : ∀ o1 o2, Below w.heap.size w ((w.alloc o1).alloc o2) := fun o1 o2 => bl_al (bl_al (bl_refl _) _) _
  
  go_enter Tryz.func137, Tryz.ntmps137
  go_wp2_with (go_at_call 32; refine (eqInt64S_same _ _ _ _ _ xs _ (h1.below RInt.stable (hb0 _ _)) (h2.below RInt.stable (hb0 _ _)) hn).mono ?_; rintro e w1 ⟨rfl, hb1⟩; obtain ⟨chb1, fhb1, shb1, thb1⟩ := bcell hb1; (try have bhb10 := shb1 (w.heap.size) (by go_simp)); (try have bhb11 := shb1 (w.heap.size + 1) (by go_simp)))
  go_ret
  refine ⟨rfl, ?_⟩
  exact bel_

set_option maxHeartbeats 1000000 in
theorem eqTileS_same (A B : Option Addr) (n c d : Nat) (xs : List Ti) (w : World) (h1 : RdSl 2 RTi w A n xs) (h2 : RdSl 2 RTi w B n xs) (hn : n ≤ 1073741824) (hx : ∀ e ∈ xs, e.sides.length ≤ 1073741824) :
    Calls Tryz.prog 97 #[.slice A n c, .slice B n d] w fun e w' => e = .returned (.bool true) ∧ Below w.heap.size w w' := by
  
  go_enter Tryz.func97, Tryz.ntmps97
  go_wp2
  go_loopg [5] n (fun g i wr => ∃ k : Nat, k + g = n ∧ i = .int .i64 k ∧ Below w.heap.size w wr)
  case atStart => exact ⟨0, by omega, rfl, Below.refl _ _⟩
  case round =>
    obtain ⟨k, hk, rfl, hbw⟩ := hrel
    have r1 := h1.below RTi.stable hbw
    have r2 := h2.below RTi.stable hbw
    by_cases hlt : k < n
    · obtain ⟨b, o, rfl, hb, hc⟩ := r1.ptr (by omega)
      obtain ⟨b2, o2, rfl, hb2, hc2⟩ := r2.ptr (by omega)
      obtain ⟨e, he⟩ := h1.get hlt
      obtain ⟨c1, A1, n1, d1, c1b, hs1⟩ := hc k e he
      obtain ⟨c2, A2, n2, d2, c2b, hs2⟩ := hc2 k e he
      obtain rfl : n1 = n2 := hs1.len.symm.trans hs2.len
      have hm : n1 ≤ 1073741824 := by rw [← hs1.len]; exact hx e (List.mem_of_getElem? he)
      have hs1 := hs1.below RInt.stable (bl_dr (bl_refl _))
      have hs2 := hs2.below RInt.stable (bl_dr (bl_refl _))
      clear hc hc2 he r1 r2
      go_wp2
      refine wp_region_ord [(0, .q), (1, .q), (2, .q), (3, .q), (4, .q), (5, .q), (6, .q), (7, .q), (8, .g), (9, .q)] (by kernel_rfl) (by kernel_rfl) ?_
      simp only [pick, List.filterMap_cons, List.filterMap_nil, List.getElem?_toArray, List.getElem?_cons_zero, List.getElem?_cons_succ, Option.map_some]
      repeat (first
        | ((with_reducible refine wpD_p (fun K hK => ?_)); go_simp; refine hK _ ?_; clear hK K)
        | ((with_reducible refine wpD_q (fun K hK => ?_)); go_simp; (first | refine hK _ ?_ | (go_bits; refine hK _ ?_) | (go_bits; go_simp; refine hK _ ?_)); clear hK K)
        | ((with_reducible refine wpD_g (fun K hK => ?_)); go_simp; refine hK _ _ ?_; clear hK K)
        | ((with_reducible refine wpD_g (fun K hK => ?_)); go_simp; refine ⟨Grew.of_alloc _, hK _ _ ?_⟩; clear hK K)
        | ((with_reducible refine wpD_g (fun K hK => ?_)); go_simp; go_at_call 137; refine (eqTile_same _ _ _ _ _ _ _ _ hs1 hs2 hm).mono ?_; rintro e w1 ⟨rfl, hb1⟩; refine ⟨_, rfl, hb1, hK _ _ ?_⟩; clear hK K; obtain ⟨chb1, fhb1, shb1, thb1⟩ := bcell hb1; (try have bhb10 := shb1 (b) (by go_simp)); (try have bhb11 := shb1 (b2) (by go_simp))))
      with_reducible refine wpD_nil ?_
      go_wp2
      go_roundg (n - (k + 1))
      case measure => omega
      case rel => exact ⟨k + 1, by omega, by go_num, (by exact bel_)⟩
    · obtain rfl : k = n := by omega
      go_wp2
      go_ret
      exact ⟨rfl, hbw⟩

theorem eqTileSet_same (A B A2 B2 : Option Addr) (n c d m c2 d2 : Nat) (gs : List Gl) (ts : List Ti) (w : World) (h1 : RdSl 2 RGl w A n gs) (h2 : RdSl 2 RGl w B n gs) (k1 : RdSl 2 RTi w A2 m ts) (k2 : RdSl 2 RTi w B2 m ts)
    (hn : n ≤ 1073741824) (hm : m ≤ 1073741824) (hx : ∀ e ∈ ts, e.sides.length ≤ 1073741824) :
    Calls Tryz.prog 46 #[.agg #[.slice A n c, .slice A2 m c2], .agg #[.slice B n d, .slice B2 m d2]] w fun e w' => e = .returned (.bool true) ∧ Below w.heap.size w w' := by
  have hb0 : ∀ o1 o2, Below w.heap.size w ((w.alloc o1).alloc o2) := fun o1 o2 => bl_al (bl_al (bl_refl _) _) _
  
  go_enter Tryz.func46, Tryz.ntmps46
  go_wp2_with (first | (go_at_call 96; refine (eqGlueS_same _ _ _ _ _ gs _ (h1.below RGl.stable (hb0 _ _)) (h2.below RGl.stable (hb0 _ _)) hn).mono ?_; rintro e w1 ⟨rfl, hb1⟩; obtain ⟨chb1, fhb1, shb1, thb1⟩ := bcell hb1; (try have bhb10 := shb1 (w.heap.size) (by go_simp)); (try have bhb11 := shb1 (w.heap.size + 1) (by go_simp))) | (go_at_call 97; refine (eqTileS_same _ _ _ _ _ ts _ (k1.below RTi.stable (bl_tr (hb0 _ _) hb1)) (k2.below RTi.stable (bl_tr (hb0 _ _) hb1)) hm hx).mono ?_; rintro e w2 ⟨rfl, hb2⟩; obtain ⟨chb2, fhb2, shb2, thb2⟩ := bcell hb2; (try have bhb20 := shb2 (w.heap.size) (by go_simp)); (try have bhb21 := shb2 (w.heap.size + 1) (by go_simp))))
  go_ret
  refine ⟨rfl, ?_⟩
  exact bel_
theorem eqAssembly_same (A B : Option Addr) (n c d : Nat) (xs : List Pl) (w : World) (h1 : RdSl 3 RPl w A n xs) (h2 : RdSl 3 RPl w B n xs) (hn : n ≤ 1073741824) :
    Calls Tryz.prog 15 #[.agg #[.slice A n c], .agg #[.slice B n d]] w fun e w' => e = .returned (.bool true) ∧ Below w.heap.size w w' := by
  have hb0 : ∀ o1 o2, Below w.heap.size w ((w.alloc o1).alloc o2) := fun o1 o2 => bl_al (bl_al (bl_refl _) _) _
  
  go_enter Tryz.func15, Tryz.ntmps15
  go_wp2_with (go_at_call 45; refine (eqPlacedS_same _ _ _ _ _ xs _ (h1.below RPl.stable (hb0 _ _)) (h2.below RPl.stable (hb0 _ _)) hn).mono ?_; rintro e w1 ⟨rfl, hb1⟩; obtain ⟨chb1, fhb1, shb1, thb1⟩ := bcell hb1; (try have bhb10 := shb1 (w.heap.size) (by go_simp)); (try have bhb11 := shb1 (w.heap.size + 1) (by go_simp)))
  go_ret
  refine ⟨rfl, ?_⟩
  exact bel_
end Go.Proofs.YtglcpphfmmnmkaaGreat
/- Walks: the harness' marks: what is laid of arguments and results is overwritten, and nothing else. -/


namespace Go.Proofs.YtglcpphfmmnmkaaGreat
open Go.RowKit
attribute [local go_sem] BelowBy.cell BelowBy.cell_drew stillUpon givesUpon

/-- from w to w' the blocks from lo on and below hi may have turned; what is new lies behind -/
structure Mk (lo hi : Nat) (w w' : World) : Prop where
  below : Below lo w w'
  size : w.heap.size ≤ w'.heap.size
  keep : ∀ k, hi ≤ k → k < w.heap.size → w'.heap[k]? = w.heap[k]?
theorem Mk.refl (lo hi : Nat) (w : World) : Mk lo hi w w := ⟨Below.refl _ _, Nat.le_refl _, fun _ _ _ => rfl⟩
theorem Mk.trans {lo hi : Nat} {a b c : World} (h : Mk lo hi a b) (k : Mk lo hi b c) : Mk lo hi a c :=
  ⟨h.below.trans k.below, Nat.le_trans h.size k.size, fun i h1 h2 => (k.keep i h1 (Nat.lt_of_lt_of_le h2 h.size)).trans (h.keep i h1 h2)⟩
theorem Mk.of_below {lo hi : Nat} {a b : World} (h : Below a.heap.size a b) (hl : lo ≤ a.heap.size) : Mk lo hi a b := ⟨h.mono hl, h.size, fun i _ h2 => h.block i h2⟩
theorem Mk.set {lo hi : Nat} {a b : World} (h : Mk lo hi a b) {p : Addr} (h1 : lo ≤ p.block) (h2 : p.block < hi) (u : Value) : Mk lo hi a (b.setCell p u) :=
  ⟨h.below.setCell h1 u, by simpa using h.size, fun i h3 h4 => (Below.heap_setCell _ _ _ _ (by omega)).trans (h.keep i h3 h4)⟩
theorem Mk.bl {lo hi : Nat} {a b c : World} (h : Mk lo hi a b) (k : Below b.heap.size b c) (hl : lo ≤ a.heap.size) : Mk lo hi a c := h.trans (Mk.of_below k (Nat.le_trans hl h.size))
theorem Mk.weaken {lo hi lo' hi' : Nat} {a b : World} (h : Mk lo hi a b) (h1 : lo' ≤ lo) (h2 : hi ≤ hi') : Mk lo' hi' a b := ⟨h.below.mono h1, h.size, fun i h3 h4 => h.keep i (by omega) h4⟩

/-- a row of its own that the call may overwrite -/
def MkRow (T : TypeId) (size lo hi : Nat) (w : World) (A : Option Addr) (n : Nat) : Prop :=
  0 < n → ∃ g N f, A = some ⟨g, 0, none⟩ ∧ lo ≤ g ∧ g < hi ∧ w.rowIs g T N f ∧ n * size ≤ N
theorem OwSl.mk_ {α : Type} {T size : Nat} {R : World → Nat → Nat → α → Prop} {w : World} {lo : Nat} {A : Option Addr} {n : Nat} {xs : List α} (h : OwSl T size R w lo A n xs) : MkRow T size lo w.heap.size w A n := fun _ => by
  obtain ⟨g, f, hA, hlo, hr, _⟩ := h.row
  exact ⟨g, _, f, hA, hlo, hr.lt, hr, Nat.le_refl _⟩
theorem mkRow_of_owns {w : World} {base size n c : Nat} {e : TypeId} {A : Option Addr} {xs : List Value} (h : w.ownsRow base e size (.slice A n c) n xs) : MkRow e size base w.heap.size w A n := fun hn => by
  rcases h.2 with ⟨h, h0⟩ | ⟨g, cap, cur, hv, hb, hh, hnc, hm, hs, ht⟩
  · omega
  · injection hv with h1 h2 h3
    exact ⟨g, cur.size, fun i => cur.getD i undef, h1, hb, (Array.getElem?_eq_some_iff.1 hh).1, ⟨cur, hh, rfl, fun i hi => by simp [hi]⟩, by rw [hs]; exact Nat.mul_le_mul_right _ hnc⟩
theorem MkRow.keep {T : TypeId} {size lo hi : Nat} {w w' : World} {A : Option Addr} {n : Nat} (h : MkRow T size lo hi w A n) (hk : ∀ k, lo ≤ k → k < hi → w'.heap[k]? = w.heap[k]?) : MkRow T size lo hi w' A n := fun hn => by
  obtain ⟨g, N, f, h1, h2, h3, h4, h5⟩ := h hn
  exact ⟨g, N, f, h1, h2, h3, h4.of_block (hk g h2 h3), h5⟩
theorem MkRow.below {T : TypeId} {size lo hi : Nat} {w w' : World} {A : Option Addr} {n : Nat} (h : MkRow T size lo hi w A n) (hb : Below w.heap.size w w') (hh : hi ≤ w.heap.size) : MkRow T size lo hi w' A n := h.keep fun k _ h2 => hb.block k (by omega)
theorem MkRow.mk {T : TypeId} {size lo hi lo' hi' : Nat} {w w' : World} {A : Option Addr} {n : Nat} (h : MkRow T size lo hi w A n) (hb : Mk lo' hi' w w') (h1 : hi' ≤ lo) (hh : hi ≤ w.heap.size) : MkRow T size lo hi w' A n := h.keep fun k h2 h3 => hb.keep k (by omega) (by omega)
theorem MkRow.set {T : TypeId} {size lo hi : Nat} {w : World} {A : Option Addr} {n : Nat} (h : MkRow T size lo hi w A n) (b k : Nat) (u : Value) : MkRow T size lo hi (w.setCell ⟨b, k, none⟩ u) A n := fun hn => by
  obtain ⟨g, N, f, h1, h2, h3, h4, h5⟩ := h hn
  by_cases e : g = b
  · subst e
    exact ⟨g, N, _, h1, h2, h3, h4.set k u, h5⟩
  · exact ⟨g, N, f, h1, h2, h3, h4.of_block (Below.heap_setCell _ _ _ _ e), h5⟩
/-- rows of tiles, with the rows of their sides -/
def MkTiles (TT TI lo hi : Nat) (w : World) (A : Option Addr) (m : Nat) : Prop :=
  0 < m → ∃ g N f, A = some ⟨g, 0, none⟩ ∧ lo ≤ g ∧ g < hi ∧ w.rowIs g TT N f ∧ m * 2 ≤ N ∧ ∀ k, k < m → ∃ A' n', f (k * 2 + 1) = .slice A' n' n' ∧ n' ≤ 1073741824 ∧ MkRow TI 1 lo hi w A' n'
theorem OwSl.mkTiles {TT TI lo : Nat} {w : World} {A : Option Addr} {m : Nat} {ts : List Ti} (h : OwSl TT 2 (ROTi TI lo) w lo A m ts) (hs : ∀ e ∈ ts, e.sides.length ≤ 1073741824) : MkTiles TT TI lo w.heap.size w A m := fun _ => by
  obtain ⟨g, f, hA, hlo, hr, he⟩ := h.row
  refine ⟨g, _, f, hA, hlo, hr.lt, hr, Nat.le_refl _, fun k hk => ?_⟩
  have hk' : k < ts.length := by rw [h.len]; exact hk
  obtain ⟨h1, A', n', h2, h3⟩ := he k _ (List.getElem?_eq_getElem hk')
  have h4 := hr.cell (i := k * 2 + 1) (by omega)
  rw [h2] at h4
  exact ⟨A', n', (Option.some.inj h4).symm, by rw [← h3.len]; exact hs _ (List.getElem_mem hk'), h3.mk_⟩
theorem MkTiles.keep {TT TI lo hi : Nat} {w w' : World} {A : Option Addr} {m : Nat} (h : MkTiles TT TI lo hi w A m) (hk : ∀ k, lo ≤ k → k < hi → w'.heap[k]? = w.heap[k]?) : MkTiles TT TI lo hi w' A m := fun hm => by
  obtain ⟨g, N, f, h1, h2, h3, h4, h5, h6⟩ := h hm
  refine ⟨g, N, f, h1, h2, h3, h4.of_block (hk g h2 h3), h5, fun k hk' => ?_⟩
  obtain ⟨A', n', g1, g2, g3⟩ := h6 k hk'
  exact ⟨A', n', g1, g2, g3.keep hk⟩
theorem MkTiles.below {TT TI lo hi : Nat} {w w' : World} {A : Option Addr} {m : Nat} (h : MkTiles TT TI lo hi w A m) (hb : Below w.heap.size w w') (hh : hi ≤ w.heap.size) : MkTiles TT TI lo hi w' A m := h.keep fun k _ h2 => hb.block k (by omega)
theorem MkTiles.mk {TT TI lo hi lo' hi' : Nat} {w w' : World} {A : Option Addr} {n : Nat} (h : MkTiles TT TI lo hi w A n) (hb : Mk lo' hi' w w') (h1 : hi' ≤ lo) (hh : hi ≤ w.heap.size) : MkTiles TT TI lo hi w' A n := h.keep fun k h2 h3 => hb.keep k (by omega) (by omega)
theorem MkTiles.set {TT TI lo hi : Nat} {w : World} {A : Option Addr} {m : Nat} (hne : TT ≠ TI) (h : MkTiles TT TI lo hi w A m) {b k : Nat} {u : Value} (hb : ∃ N f, w.rowIs b TI N f) : MkTiles TT TI lo hi (w.setCell ⟨b, k, none⟩ u) A m := fun hm => by
  obtain ⟨g, N, f, h1, h2, h3, h4, h5, h6⟩ := h hm
  have hgb : g ≠ b := by
    rintro rfl
    obtain ⟨N', f', c', hc', _⟩ := hb
    obtain ⟨c, hc, _⟩ := h4
    rw [hc] at hc'
    injection hc' with hc'
    injection hc' with _ ht
    exact hne ht
  refine ⟨g, N, f, h1, h2, h3, h4.of_block (Below.heap_setCell _ _ _ _ hgb), h5, fun k' hk' => ?_⟩
  obtain ⟨A', n', g1, g2, g3⟩ := h6 k' hk'
  exact ⟨A', n', g1, g2, g3.set b k u⟩
theorem MkTiles.setName {TT TI lo hi : Nat} {w : World} {A : Option Addr} {m : Nat} (hne : TT ≠ TI) (h : MkTiles TT TI lo hi w A m) {b : Nat} (hA : A = some ⟨b, 0, none⟩) (k : Nat) (u : Value) : MkTiles TT TI lo hi (w.setCell ⟨b, k * 2, none⟩ u) A m := fun hm => by
  obtain ⟨g, N, f, h1, h2, h3, h4, h5, h6⟩ := h hm
  obtain rfl : g = b := by
    rw [hA] at h1
    injection h1 with h1
    injection h1 with h1
    exact h1.symm
  refine ⟨g, N, _, h1, h2, h3, h4.set (k * 2) u, h5, fun k' hk' => ?_⟩
  obtain ⟨A', n', g1, g2, g3⟩ := h6 k' hk'
  exact ⟨A', n', by rw [if_neg (by omega)]; exact g1, g2, g3.set g (k * 2) u⟩

end Go.Proofs.YtglcpphfmmnmkaaGreat
/- Walks: the harness' marks. -/



namespace Go.Proofs.YtglcpphfmmnmkaaGreat
open Go.RowKit
attribute [local go_sem] BelowBy.cell BelowBy.cell_drew stillUpon givesUpon

/-- what a mark leaves -/
def MkRes (lo hi : Nat) (w : World) (r : Nat) (e : Ending) (w' : World) : Prop := e = .returned (.int .i64 (r : Int)) ∧ Mk lo hi w w'
def MkRes2 (lo hi : Nat) (w : World) (k top : Nat) (e : Ending) (w' : World) : Prop := ∃ r : Nat, e = .returned (.int .i64 (r : Int)) ∧ k ≤ r ∧ r ≤ top ∧ Mk lo hi w w'
/-- markText -/
def digB (j : Nat) : UInt8 := UInt8.ofNat (48 + j % 10)
def mkDig : Nat → Nat → ByteArray → ByteArray
  | 0, _, s => s
  | f + 1, j, s => if j = 0 then s else mkDig f (j / 10) (⟨[digB j].toArray⟩ ++ s)
def markS (k : Nat) : ByteArray := if k = 0 then ⟨#[109, 48]⟩ else ⟨#[109]⟩ ++ mkDig (k + 1) k ⟨#[]⟩
theorem mkDig_zero (f : Nat) (s : ByteArray) : mkDig f 0 s = s := by cases f <;> simp [mkDig]
theorem mkDig_pos (f j : Nat) (s : ByteArray) (hj : 0 < j) : mkDig (f + 1) j s = mkDig f (j / 10) (⟨[digB j].toArray⟩ ++ s) := by
  simp only [mkDig]; rw [if_neg (by omega)]
theorem size_snoc1 (u : UInt8) (s : ByteArray) : ((⟨[u].toArray⟩ : ByteArray) ++ s).size = s.size + 1 := by
  rw [ByteArray.size_append]; show 1 + s.size = _; omega
theorem run_digit (t t9 u : TypeId) (ht : Tryz.prog.underlying t = some (.slice u)) (hu : Tryz.prog.underlying u = some (.int .u8)) (h9 : Tryz.prog.underlying t9 = some .string) (j : Nat) (W : World) :
    (convert t t9 (.slice (some ⟨W.heap.size, 0, none⟩) 1 1)).run Tryz.prog (W.alloc (.cells #[.int .u8 (48 + (j : Int) % 10)] u)) = .ok (.string ⟨[digB j].toArray⟩) (W.alloc (.cells #[.int .u8 (48 + (j : Int) % 10)] u)) := by
  have := run_convert_bytes_back (P := Tryz.prog) (W.alloc (.cells #[.int .u8 (48 + (j : Int) % 10)] u)) t t9 u ⟨W.heap.size, 0, none⟩ 1 [digB j] ht hu h9 (fun i hi => by
    obtain rfl : i = 0 := by simpa using hi
    simp [Addr.add, digB]
    omega)
  exact this
def MarkT (w : World) (k : Nat) (e : Ending) (w' : World) : Prop := e = .returned (.string (markS k)) ∧ Below w.heap.size w w'
set_option maxRecDepth 100000 in
set_option maxHeartbeats 1000000 in
theorem markText_any (k : Nat) (hk : k ≤ 4611686018427387904) (w : World) :
    Calls Tryz.prog 138 #[.int .i64 (k : Int)] w (MarkT w k) := by
  by_cases h0 : k = 0
  · subst h0
    go_enter Tryz.func138, Tryz.ntmps138
    go_wp2
    go_ret
    exact ⟨rfl, bl_refl _⟩
  · have hpos : (0 : Int) < (k : Int) := by omega
    have hm : markS k = ⟨#[109]⟩ ++ mkDig (k + 1) k ⟨#[]⟩ := by unfold markS; rw [if_neg h0]
    have hmH := Lib.hid hm
    clear h0 hm
    go_enter Tryz.func138, Tryz.ntmps138
    go_wp2
    go_loopg [0, 3] (k + 1) (fun r x out wr => ∃ (j : Nat) (s : ByteArray), j < r ∧ s.size + r ≤ k + 1 ∧ mkDig r j s = mkDig (k + 1) k ⟨#[]⟩ ∧ x = .int .i64 (j : Int) ∧ out = .string s ∧ Below w.heap.size w wr)
    case atStart => exact ⟨k, _, by omega, Nat.le_of_eq (Nat.zero_add _), rfl, rfl, rfl, bl_refl _⟩
    case round =>
      obtain ⟨j, s, hj, hs, hd, rfl, rfl, hbw⟩ := hrel
      have hcv := run_digit _ _ _ Tryz.underlying221 Tryz.underlying5 Tryz.underlying9 j
      have hdH := Lib.hid hd
      have hszH := Lib.hid (size_snoc1 (digB j) s)
      clear hd
      have hss : (s.size : Int) ≤ 4611686018427387905 := by omega
      by_cases hlt : 0 < j
      · have hlt' : (0 : Int) < (j : Int) := by omega
        have hge : (0 : Int) ≤ (j : Int) := by omega
        go_wp2
        go_roundg (gk - 1)
        case measure => omega
        case rel => exact ⟨j / 10, _, by omega, by (have := hszH.out; omega), by (rw [← hdH.out]; obtain ⟨r', rfl⟩ : ∃ r', gk = r' + 1 := ⟨gk - 1, by omega⟩; rw [mkDig_pos _ _ _ hlt]; rfl), by go_num, rfl, bl_al hbw _⟩
      · have hlt' : ¬ (0 : Int) < (j : Int) := by omega
        have hcat := fun W : World => run_string_add_sum (P := Tryz.prog) (w := W) ⟨#[109]⟩ s (by show 1 + s.size ≤ _; omega)
        go_wp2
        go_ret
        refine ⟨?_, hbw⟩
        obtain rfl : j = 0 := by omega
        rw [hmH.out, ← hdH.out, mkDig_zero]
        rfl
end Go.Proofs.YtglcpphfmmnmkaaGreat
/- Walks: the harness' marks on slices, sets, assemblies. -/


namespace Go.Proofs.YtglcpphfmmnmkaaGreat
open Go.RowKit
attribute [local go_sem] BelowBy.cell BelowBy.cell_drew stillUpon givesUpon

set_option maxRecDepth 100000 in
set_option maxHeartbeats 1000000 in
theorem markInt64S_any (A : Option Addr) (n c k lo hi : Nat) (w : World) (h : MkRow 2 1 lo hi w A n) (hh : hi ≤ w.heap.size) (hl : lo ≤ w.heap.size) (hk : k + n ≤ 4611686018427387904) :
    Calls Tryz.prog 33 #[.slice A n c, .int .i64 (k : Int)] w (MkRes lo hi w (k + n)) := by
  go_enter Tryz.func33, Tryz.ntmps33
  go_wp2
  go_loopg [5, 1] n (fun r x kk wr => ∃ i : Nat, i + r = n ∧ x = .int .i64 (i : Int) ∧ kk = .int .i64 ((k + i : Nat) : Int) ∧ MkRow 2 1 lo hi wr A n ∧ Mk lo hi w wr)
  case atStart => exact ⟨0, by omega, rfl, rfl, h, Mk.refl _ _ _⟩
  case round =>
    obtain ⟨i, hi', rfl, rfl, hr, hm⟩ := hrel
    by_cases hlt : i < n
    · obtain ⟨g, N, f, rfl, hg1, hg2, hrow, hN⟩ := hr (by omega)
      have hc0 := hrow.cell (i := i) (by omega)
      have hf0 := hrow.frozen i
      have hki : (0 : Int) ≤ (k : Int) + (i : Int) := by omega
      have hki2 : (k : Int) + (i : Int) < 4611686018427387904 := by omega
      have hr := hr.set g i
      have hm := fun u => hm.set (p := ⟨g, i, none⟩) hg1 hg2 u
      have hr := Lib.hid hr
      have hm := Lib.hid hm
      clear hrow
      go_wp2
      go_roundg (n - (i + 1))
      case measure => omega
      case rel => exact ⟨i + 1, by omega, by go_num, by go_num, hr.out _, hm.out _⟩
    · obtain rfl : i = n := by omega
      go_wp2
      go_ret
      exact ⟨rfl, hm⟩
set_option maxRecDepth 100000 in
set_option maxHeartbeats 2000000 in
theorem markGlueS_any (A : Option Addr) (n c k lo hi : Nat) (w : World) (h : MkRow 190 2 lo hi w A n) (hh : hi ≤ w.heap.size) (hl : lo ≤ w.heap.size) (hk : k + 2 * n ≤ 4611686018427387904) :
    Calls Tryz.prog 98 #[.slice A n c, .int .i64 (k : Int)] w (MkRes lo hi w (k + 2 * n)) := by
  go_enter Tryz.func98, Tryz.ntmps98
  go_wp2
  go_loopg [5, 1] n (fun r x kk wr => ∃ i : Nat, i + r = n ∧ x = .int .i64 (i : Int) ∧ kk = .int .i64 ((k + 2 * i : Nat) : Int) ∧ MkRow 190 2 lo hi wr A n ∧ Mk lo hi w wr)
  case atStart => exact ⟨0, by omega, rfl, rfl, h, Mk.refl _ _ _⟩
  case round =>
    obtain ⟨i, hi', rfl, rfl, hr, hm⟩ := hrel
    by_cases hlt : i < n
    · obtain ⟨j, hj⟩ : ∃ j, j = k + 2 * i := ⟨_, rfl⟩
      have hki : (0 : Int) ≤ (j : Int) := by omega
      have hki2 : (j : Int) + 1 < 4611686018427387904 := by omega
      have hjH := Lib.hid hj
      rw [← hj]
      clear hj
      have hhw : hi ≤ wr.heap.size := Nat.le_trans hh hm.size
      have hmH := Lib.hid hm
      have hrH := Lib.hid hr
      have hrr := hr (by omega)
      obtain ⟨g, N, f, rfl, hg1, hg2, hrow, hN⟩ := hrr
      clear hm hr hrow
      go_wp2_with fail
      refine (markText_any j (by omega) _).mono ?_
      rintro e w1 ⟨rfl, hb1⟩
      have hr1 := hrH.out.below hb1 hhw
      have hr1H := Lib.hid hr1
      obtain ⟨g', N', f', hA, _, _, hrow, hN'⟩ := hr1 (by omega)
      obtain rfl : g = g' := by simpa using hA
      have hc0 := hrow.cell (i := i * 2) (by omega)
      have hf0 := hrow.frozen (i * 2)
      have hc1 := hrow.cell (i := i * 2 + 1) (by omega)
      have hf1 := hrow.frozen (i * 2 + 1)
      have hb1H := Lib.hid hb1
      clear hrow hr1 hA hb1
      go_wp2
      go_roundg (n - (i + 1))
      case measure => omega
      case rel => exact ⟨i + 1, by omega, by go_num, by (have := hjH.out; rw [show k + 2 * (i + 1) = j + 1 + 1 by omega]; go_num), ((hr1H.out.set g (i * 2) _).set g (i * 2 + 1) _), ((hmH.out.bl hb1H.out hl).set (p := ⟨g, i * 2, none⟩) hg1 hg2 _).set (p := ⟨g, i * 2 + 1, none⟩) hg1 hg2 _⟩
    · obtain rfl : i = n := by omega
      go_wp2
      go_ret
      exact ⟨rfl, hm⟩
end Go.Proofs.YtglcpphfmmnmkaaGreat
/- Walks: the harness' marks on slices of structs of numbers, what they leave, and what 'held' says of it. -/

namespace Go.Proofs.YtglcpphfmmnmkaaGreat
open Go.RowKit
attribute [local go_sem] BelowBy.cell BelowBy.cell_drew stillUpon givesUpon

/-- the cells bear the numbers from k on -/
def Marked (T : TypeId) (size lo hi : Nat) (w : World) (A : Option Addr) (n k : Nat) : Prop :=
  0 < n → ∃ g N f, A = some ⟨g, 0, none⟩ ∧ lo ≤ g ∧ g < hi ∧ w.rowIs g T N f ∧ n * size ≤ N ∧ ∀ j, j < n * size → f j = .int .i64 ((k + j : Nat) : Int)
theorem Marked.keep {T : TypeId} {size lo hi k : Nat} {w w' : World} {A : Option Addr} {n : Nat} (h : Marked T size lo hi w A n k) (hk : ∀ k, lo ≤ k → k < hi → w'.heap[k]? = w.heap[k]?) : Marked T size lo hi w' A n k := fun hn => by
  obtain ⟨g, N, f, h1, h2, h3, h4, h5, h6⟩ := h hn
  exact ⟨g, N, f, h1, h2, h3, h4.of_block (hk g h2 h3), h5, h6⟩
theorem Marked.below {T : TypeId} {size lo hi k : Nat} {w w' : World} {A : Option Addr} {n : Nat} (h : Marked T size lo hi w A n k) (hb : Below w.heap.size w w') (hh : hi ≤ w.heap.size) : Marked T size lo hi w' A n k := h.keep fun k _ h2 => hb.block k (by omega)
def MkCore (T : TypeId) (size g N n k : Nat) (w : World) (r : Nat) (e : Ending) (w' : World) : Prop := e = .returned (.int .i64 (r : Int)) ∧ Mk g (g + 1) w w' ∧ ∃ f, w'.rowIs g T N f ∧ ∀ j, j < n * size → f j = .int .i64 ((k + j : Nat) : Int)
def MkResC (T : TypeId) (size lo hi : Nat) (A : Option Addr) (n k : Nat) (w : World) (r : Nat) (e : Ending) (w' : World) : Prop := e = .returned (.int .i64 (r : Int)) ∧ Mk lo hi w w' ∧ Marked T size lo hi w' A n k

set_option maxRecDepth 100000 in
set_option maxHeartbeats 2000000 in
theorem markInt64S_zero (A : Option Addr) (c k : Nat) (w : World) :
    Calls Tryz.prog 33 #[.slice A 0 c, .int .i64 (k : Int)] w fun e w' => e = .returned (.int .i64 (k : Int)) ∧ w = w' := by
  go_enter Tryz.func33, Tryz.ntmps33
  go_wp2
  refine wp_loop_rounds 1 ?_
  rw [rounds_succ]
  go_wp2
  go_ret
  exact ⟨rfl, rfl⟩
set_option maxRecDepth 100000 in
set_option maxHeartbeats 2000000 in
theorem markInt64S_core (g N n c k : Nat) (f0 : Nat → Value) (w : World) (hrow0 : w.rowIs g 2 N f0) (hN : n * 1 ≤ N) (hk : k + n ≤ 4611686018427387904) :
    Calls Tryz.prog 33 #[.slice (some ⟨g, 0, none⟩) n c, .int .i64 (k : Int)] w (MkCore 2 1 g N n k w (k + n)) := by
  have hg1 : g ≤ g := Nat.le_refl _
  have hg2 : g < g + 1 := Nat.lt_succ_self _
  go_enter Tryz.func33, Tryz.ntmps33
  go_wp2
  go_loopg [5, 1] n (fun r x kk wr => ∃ (i : Nat) (f : Nat → Value), i + r = n ∧ x = .int .i64 (i : Int) ∧ kk = .int .i64 ((k + i : Nat) : Int) ∧ wr.rowIs g 2 N f ∧ (∀ j, j < i * 1 → f j = .int .i64 ((k + j : Nat) : Int)) ∧ Mk g (g + 1) w wr)
  case atStart => exact ⟨0, f0, by omega, rfl, rfl, hrow0, fun j hj => by omega, Mk.refl _ _ _⟩
  case round =>
    obtain ⟨i, f, hi', rfl, rfl, hrow, hcont, hm⟩ := hrel
    have hcontH := Lib.hid hcont
    have hmH := Lib.hid hm
    clear hcont hm
    by_cases hlt : i < n
    · obtain ⟨j0, hj⟩ : ∃ j0, j0 = k + i := ⟨_, rfl⟩
      have hki : (0 : Int) ≤ (j0 : Int) := by omega
      have hki2 : (j0 : Int) + 1 < 4611686018427387910 := by omega
      have hjH := Lib.hid hj
      rw [← hj]
      clear hj
      have hc0 := hrow.cell (i := i) (by omega)
      have hf0 := hrow.frozen (i)
      have hrowH := Lib.hid hrow
      clear hrow
      go_wp2
      go_roundg (n - (i + 1))
      case measure => omega
      case rel => exact ⟨i + 1, _, by omega, by go_num, by (have := hjH.out; rw [show k + (i + 1) = j0 + 1 by omega]; go_num), (hrowH.out.set (i) _), fun j hj => (by
        have hcont := hcontH.out
        have h0 := hjH.out
        rcases (show j < i * 1 ∨ j = i by omega) with hjj | hjj
        · rw [if_neg (by omega)]; exact hcont j hjj
        · rw [if_pos (by omega)]; exact congrArg (Value.int IntKind.i64) (by have := hjH.out; omega)), ((hmH.out).set (p := ⟨g, i, none⟩) hg1 hg2 _)⟩
    · obtain rfl : i = n := by omega
      go_wp2
      go_ret
      exact ⟨rfl, hmH.out, f, hrow, hcontH.out⟩
theorem markInt64S_c (A : Option Addr) (n c k lo hi : Nat) (w : World) (h : MkRow 2 1 lo hi w A n) (hh : hi ≤ w.heap.size) (hl : lo ≤ w.heap.size) (hk : k + n ≤ 4611686018427387904) :
    Calls Tryz.prog 33 #[.slice A n c, .int .i64 (k : Int)] w (MkResC 2 1 lo hi A n k w (k + n)) := by
  by_cases hn : n = 0
  · subst hn
    refine (markInt64S_zero A c k w).mono ?_
    rintro e w' ⟨rfl, rfl⟩
    exact ⟨rfl, Mk.refl _ _ _, fun h => by omega⟩
  · obtain ⟨g, N, f0, rfl, hg1, hg2, hrow0, hN⟩ := h (by omega)
    refine (markInt64S_core g N n c k f0 w hrow0 hN hk).mono ?_
    rintro e w' ⟨he, hm, f, hrow, hcont⟩
    exact ⟨he, hm.weaken hg1 (by omega), fun _ => ⟨g, N, f, rfl, hg1, hg2, hrow, hN, hcont⟩⟩

set_option maxRecDepth 100000 in
set_option maxHeartbeats 2000000 in
theorem heldInt64S_any (A : Option Addr) (n c k lo hi : Nat) (w : World) (h : Marked 2 1 lo hi w A n k) (hk : k + n ≤ 4611686018427387904) :
    Calls Tryz.prog 34 #[.slice A n c, .int .i64 (k : Int)] w fun e w' => e = .returned (.int .i64 ((k + n : Nat) : Int)) ∧ w = w' := by
  go_enter Tryz.func34, Tryz.ntmps34
  go_wp2
  go_loopg [5, 1] n (fun r x kk wr => ∃ i : Nat, i + r = n ∧ x = .int .i64 (i : Int) ∧ kk = .int .i64 ((k + i : Nat) : Int) ∧ w = wr)
  case atStart => exact ⟨0, by omega, rfl, rfl, rfl⟩
  case round =>
    obtain ⟨i, hi', rfl, rfl, rfl⟩ := hrel
    by_cases hlt : i < n
    · obtain ⟨j0, hj⟩ : ∃ j0, j0 = k + i := ⟨_, rfl⟩
      have hki : (0 : Int) ≤ (j0 : Int) := by omega
      have hki2 : (j0 : Int) + 1 < 4611686018427387910 := by omega
      have hjH := Lib.hid hj
      rw [← hj]
      obtain ⟨g, N, f, rfl, hg1, hg2, hrow, hN, hcont⟩ := h (by omega)
      have hc0 := hrow.cell (i := i) (by omega)
      rw [hcont (i) (by omega), show ((k + (i) : Nat) : Int) = (j0 : Int) by omega] at hc0
      clear hj hrow hcont h
      go_wp2
      go_roundg (n - (i + 1))
      case measure => omega
      case rel => exact ⟨i + 1, by omega, by go_num, by (have := hjH.out; rw [show k + (i + 1) = j0 + 1 by omega]; go_num), rfl⟩
    · obtain rfl : i = n := by omega
      go_wp2
      go_ret
      exact ⟨rfl, rfl⟩

set_option maxRecDepth 100000 in
set_option maxHeartbeats 2000000 in
theorem markPlacedS_zero (A : Option Addr) (c k : Nat) (w : World) :
    Calls Tryz.prog 49 #[.slice A 0 c, .int .i64 (k : Int)] w fun e w' => e = .returned (.int .i64 (k : Int)) ∧ w = w' := by
  go_enter Tryz.func49, Tryz.ntmps49
  go_wp2
  refine wp_loop_rounds 1 ?_
  rw [rounds_succ]
  go_wp2
  go_ret
  exact ⟨rfl, rfl⟩
set_option maxRecDepth 100000 in
set_option maxHeartbeats 2000000 in
theorem markPlacedS_core (g N n c k : Nat) (f0 : Nat → Value) (w : World) (hrow0 : w.rowIs g 100 N f0) (hN : n * 3 ≤ N) (hk : k + 3 * n ≤ 4611686018427387904) :
    Calls Tryz.prog 49 #[.slice (some ⟨g, 0, none⟩) n c, .int .i64 (k : Int)] w (MkCore 100 3 g N n k w (k + 3 * n)) := by
  have hg1 : g ≤ g := Nat.le_refl _
  have hg2 : g < g + 1 := Nat.lt_succ_self _
  go_enter Tryz.func49, Tryz.ntmps49
  go_wp2
  go_loopg [5, 1] n (fun r x kk wr => ∃ (i : Nat) (f : Nat → Value), i + r = n ∧ x = .int .i64 (i : Int) ∧ kk = .int .i64 ((k + 3 * i : Nat) : Int) ∧ wr.rowIs g 100 N f ∧ (∀ j, j < i * 3 → f j = .int .i64 ((k + j : Nat) : Int)) ∧ Mk g (g + 1) w wr)
  case atStart => exact ⟨0, f0, by omega, rfl, rfl, hrow0, fun j hj => by omega, Mk.refl _ _ _⟩
  case round =>
    obtain ⟨i, f, hi', rfl, rfl, hrow, hcont, hm⟩ := hrel
    have hcontH := Lib.hid hcont
    have hmH := Lib.hid hm
    clear hcont hm
    by_cases hlt : i < n
    · obtain ⟨j0, hj⟩ : ∃ j0, j0 = k + 3 * i := ⟨_, rfl⟩
      have hki : (0 : Int) ≤ (j0 : Int) := by omega
      have hki2 : (j0 : Int) + 3 < 4611686018427387910 := by omega
      have hjH := Lib.hid hj
      rw [← hj]
      clear hj
      have hc0 := hrow.cell (i := i * 3) (by omega)
      have hf0 := hrow.frozen (i * 3)
      have hc1 := hrow.cell (i := i * 3 + 1) (by omega)
      have hf1 := hrow.frozen (i * 3 + 1)
      have hc2 := hrow.cell (i := i * 3 + 2) (by omega)
      have hf2 := hrow.frozen (i * 3 + 2)
      have hrowH := Lib.hid hrow
      clear hrow
      go_wp2
      go_roundg (n - (i + 1))
      case measure => omega
      case rel => exact ⟨i + 1, _, by omega, by go_num, by (have := hjH.out; rw [show k + 3 * (i + 1) = j0 + 1 + 1 + 1 by omega]; go_num), (((hrowH.out.set (i * 3) _).set (i * 3 + 1) _).set (i * 3 + 2) _), fun j hj => (by
        have hcont := hcontH.out
        have h0 := hjH.out
        rcases (show j < i * 3 ∨ j = i * 3 ∨ j = i * 3 + 1 ∨ j = i * 3 + 2 by omega) with hjj | hjj | hjj | hjj
        · rw [if_neg (by omega), if_neg (by omega), if_neg (by omega)]; exact hcont j hjj
        · rw [if_neg (by omega), if_neg (by omega), if_pos (by omega)]; exact congrArg (Value.int IntKind.i64) (by have := hjH.out; omega)
        · rw [if_neg (by omega), if_pos (by omega)]; exact congrArg (Value.int IntKind.i64) (by have := hjH.out; omega)
        · rw [if_pos (by omega)]; exact congrArg (Value.int IntKind.i64) (by have := hjH.out; omega)), ((((hmH.out).set (p := ⟨g, i * 3, none⟩) hg1 hg2 _).set (p := ⟨g, i * 3 + 1, none⟩) hg1 hg2 _).set (p := ⟨g, i * 3 + 2, none⟩) hg1 hg2 _)⟩
    · obtain rfl : i = n := by omega
      go_wp2
      go_ret
      exact ⟨rfl, hmH.out, f, hrow, hcontH.out⟩
theorem markPlacedS_c (A : Option Addr) (n c k lo hi : Nat) (w : World) (h : MkRow 100 3 lo hi w A n) (hh : hi ≤ w.heap.size) (hl : lo ≤ w.heap.size) (hk : k + 3 * n ≤ 4611686018427387904) :
    Calls Tryz.prog 49 #[.slice A n c, .int .i64 (k : Int)] w (MkResC 100 3 lo hi A n k w (k + 3 * n)) := by
  by_cases hn : n = 0
  · subst hn
    refine (markPlacedS_zero A c k w).mono ?_
    rintro e w' ⟨rfl, rfl⟩
    exact ⟨rfl, Mk.refl _ _ _, fun h => by omega⟩
  · obtain ⟨g, N, f0, rfl, hg1, hg2, hrow0, hN⟩ := h (by omega)
    refine (markPlacedS_core g N n c k f0 w hrow0 hN hk).mono ?_
    rintro e w' ⟨he, hm, f, hrow, hcont⟩
    exact ⟨he, hm.weaken hg1 (by omega), fun _ => ⟨g, N, f, rfl, hg1, hg2, hrow, hN, hcont⟩⟩
theorem markPlacedS_any (A : Option Addr) (n c k lo hi : Nat) (w : World) (h : MkRow 100 3 lo hi w A n) (hh : hi ≤ w.heap.size) (hl : lo ≤ w.heap.size) (hk : k + 3 * n ≤ 4611686018427387904) :
    Calls Tryz.prog 49 #[.slice A n c, .int .i64 (k : Int)] w (MkRes lo hi w (k + 3 * n)) :=
  (markPlacedS_c A n c k lo hi w h hh hl hk).mono fun _ _ h => ⟨h.1, h.2.1⟩
end Go.Proofs.YtglcpphfmmnmkaaGreat
/- Walks: the harness' marks on sets and assemblies. -/

namespace Go.Proofs.YtglcpphfmmnmkaaGreat
open Go.RowKit
attribute [local go_sem] BelowBy.cell BelowBy.cell_drew stillUpon givesUpon

theorem tile_ne_int : (167 : TypeId) ≠ 2 := by decide
theorem rowIs_size {w : World} {g N M : Nat} {T : TypeId} {f f' : Nat → Value} (h : w.rowIs g T N f) (k : w.rowIs g T M f') : N = M := by
  obtain ⟨c, hc, hs, _⟩ := h
  obtain ⟨c', hc', hs', _⟩ := k
  rw [hc] at hc'
  injection hc' with hc'
  injection hc' with hc'
  rw [← hs, ← hs', hc']
theorem MkTiles.mkI {lo hi : Nat} {w w' : World} {A : Option Addr} {m : Nat} (h : MkTiles 167 2 lo hi w A m) {b N' : Nat} {f0 f1 : Nat → Value} (h1 : w.rowIs b 2 N' f0) (h2 : w'.rowIs b 2 N' f1) (hk : ∀ k, k ≠ b → k < w.heap.size → w'.heap[k]? = w.heap[k]?) : MkTiles 167 2 lo hi w' A m := fun hm => by
  obtain ⟨g, N, f, a1, a2, a3, a4, a5, a6⟩ := h hm
  have hgb : g ≠ b := by
    rintro rfl
    obtain ⟨c0, hc0, _⟩ := a4
    obtain ⟨c1, hc1, _⟩ := h1
    rw [hc0] at hc1
    injection hc1 with hc1
    injection hc1 with _ ht
    exact tile_ne_int ht
  refine ⟨g, N, f, a1, a2, a3, a4.of_block (hk g hgb a4.lt), a5, fun k' hk' => ?_⟩
  obtain ⟨A', n', g1, g2, g3⟩ := a6 k' hk'
  refine ⟨A', n', g1, g2, fun hn' => ?_⟩
  obtain ⟨b', M, fb, b1, b2, b3, b4, b5⟩ := g3 hn'
  by_cases e : b' = b
  · subst e
    obtain rfl := rowIs_size h1 b4
    exact ⟨b', _, f1, b1, b2, b3, h2, b5⟩
  · exact ⟨b', M, fb, b1, b2, b3, b4.of_block (hk b' e b4.lt), b5⟩
/-- the marks on one row of a tile's sides -/
def MkSide (lo hi m : Nat) (B : Option Addr) (w : World) (r : Nat) (e : Ending) (w' : World) : Prop := e = .returned (.int .i64 (r : Int)) ∧ Mk lo hi w w' ∧ MkTiles 167 2 lo hi w' B m
theorem markSide_any (A B : Option Addr) (n c k lo hi m : Nat) (w : World) (h : MkRow 2 1 lo hi w A n) (hT : MkTiles 167 2 lo hi w B m) (hk : k + n ≤ 4611686018427387904) :
    Calls Tryz.prog 33 #[.slice A n c, .int .i64 (k : Int)] w (MkSide lo hi m B w (k + n)) := by
  by_cases hn : n = 0
  · subst hn
    refine (markInt64S_zero A c k w).mono ?_
    rintro e w' ⟨rfl, rfl⟩
    exact ⟨rfl, Mk.refl _ _ _, hT⟩
  · obtain ⟨g, N, f0, rfl, hg1, hg2, hrow0, hN⟩ := h (by omega)
    refine (markInt64S_core g N n c k f0 w hrow0 hN hk).mono ?_
    rintro e w' ⟨he, hm, f, hrow, hcont⟩
    refine ⟨he, hm.weaken hg1 (by omega), hT.mkI hrow0 hrow (fun k hk hk' => ?_)⟩
    rcases Nat.lt_or_ge k g with hlt | hge
    · exact hm.below.block k hlt
    · exact hm.keep k (by omega) hk'
set_option maxRecDepth 100000 in
set_option maxHeartbeats 2000000 in
theorem markTileS_any (A : Option Addr) (n c k lo hi : Nat) (w : World) (h : MkTiles 167 2 lo hi w A n) (hh : hi ≤ w.heap.size) (hl : lo ≤ w.heap.size) (hk : k + 1073741825 * n ≤ 4611686018427387904) :
    Calls Tryz.prog 99 #[.slice A n c, .int .i64 (k : Int)] w (MkRes2 lo hi w k (k + 1073741825 * n)) := by
  go_enter Tryz.func99, Tryz.ntmps99
  go_wp2
  go_loopg [5, 1] n (fun r x kk wr => ∃ (i j0 : Nat), i + r = n ∧ x = .int .i64 (i : Int) ∧ kk = .int .i64 (j0 : Int) ∧ k ≤ j0 ∧ j0 ≤ k + 1073741825 * i ∧ MkTiles 167 2 lo hi wr A n ∧ Mk lo hi w wr)
  case atStart => exact ⟨0, k, by omega, rfl, rfl, Nat.le_refl _, by omega, h, Mk.refl _ _ _⟩
  case round =>
    obtain ⟨i, j0, hi', rfl, rfl, hj1, hj2, hr, hm⟩ := hrel
    by_cases hlt : i < n
    · have hj2H := Lib.hid hj2
      have hki : (0 : Int) ≤ (j0 : Int) := by omega
      have hki2 : (j0 : Int) + 1 < 4611686018427387904 := by omega
      have hj1H := Lib.hid hj1
      have hmH := Lib.hid hm
      have hrH := Lib.hid hr
      have hhw : hi ≤ wr.heap.size := Nat.le_trans hh hm.size
      have hrr := hr (by omega)
      obtain ⟨g, N, f, rfl, hg1, hg2, hrow, hN, _⟩ := hrr
      clear hj2 hj1 hm hr hrow
      go_wp2_with fail
      refine (markText_any j0 (by omega) _).mono ?_
      rintro e w1 ⟨rfl, hb1⟩
      have hr1 := hrH.out.below hb1 hhw
      have hr1H := Lib.hid hr1
      obtain ⟨g', N', f', hA, _, _, hrow, hN', hsd⟩ := hr1 (by omega)
      obtain rfl : g = g' := by simpa using hA
      obtain ⟨A', n', hfk, hn', hside⟩ := hsd i hlt
      have hc0 := hrow.cell (i := i * 2) (by omega)
      have hf0 := hrow.frozen (i * 2)
      have hc1 := hrow.cell (i := i * 2 + 1) (by omega)
      rw [hfk] at hc1
      have hf1 := hrow.frozen (i * 2 + 1)
      have hb1H := Lib.hid hb1
      have hsideH := Lib.hid hside
      have hzs := Lib.hid hb1.size
      clear hrow hr1 hA hb1 hsd hfk hside
      go_wp2_with fail
      have hmA : Mk lo hi w (w1.setCell ⟨g, i * 2, none⟩ (Value.string (markS j0))) := ((hmH.out.bl hb1H.out hl).set (p := ⟨g, i * 2, none⟩) hg1 hg2 _)
      have hrA := hr1H.out.setName tile_ne_int rfl i (Value.string (markS j0))
      have hsA := hsideH.out.set g (i * 2) (Value.string (markS j0))
      refine (markSide_any A' _ n' _ (j0 + 1) lo hi n _ hsA hrA (by have := hj2H.out; omega)).mono ?_
      rintro e w2 ⟨rfl, hm2, hT2⟩
      have hm2H := Lib.hid hm2
      have hT2H := Lib.hid hT2
      have hmAH := Lib.hid hmA
      clear hm2 hT2 hmA hrA hsA
      go_wp2
      go_roundg (n - (i + 1))
      case measure => omega
      case rel => exact ⟨i + 1, j0 + 1 + n', by omega, by go_num, rfl, (by have := hj1H.out; omega), (by have := hj2H.out; omega), hT2H.out, hmAH.out.trans hm2H.out⟩
    · obtain rfl : i = n := by omega
      go_wp2
      go_ret
      exact ⟨j0, rfl, hj1, hj2, hm⟩
theorem rowIs_ne {w : World} {g b N M : Nat} {T U : TypeId} {f f' : Nat → Value} (h : w.rowIs g T N f) (k : w.rowIs b U M f') (hne : T ≠ U) : g ≠ b := by
  rintro rfl
  obtain ⟨c, hc, _⟩ := h
  obtain ⟨c', hc', _⟩ := k
  rw [hc] at hc'
  injection hc' with hc'
  injection hc' with _ ht
  exact hne ht
theorem MkTiles.far {lo hi g N0 : Nat} {w w' : World} {A : Option Addr} {m : Nat} {T : TypeId} {f0 : Nat → Value} (h : MkTiles 167 2 lo hi w A m) (hg : w.rowIs g T N0 f0) (hT : T ≠ 167) (hI : T ≠ 2) (hm : Mk g (g + 1) w w') : MkTiles 167 2 lo hi w' A m := fun h0 => by
  have hk : ∀ k, k ≠ g → k < w.heap.size → w'.heap[k]? = w.heap[k]? := fun k hk hk' => by
    rcases Nat.lt_or_ge k g with hlt | hge
    · exact hm.below.block k hlt
    · exact hm.keep k (by omega) hk'
  obtain ⟨b, N, f, a1, a2, a3, a4, a5, a6⟩ := h h0
  refine ⟨b, N, f, a1, a2, a3, a4.of_block (hk b (Ne.symm (rowIs_ne hg a4 hT)) a4.lt), a5, fun k' hk' => ?_⟩
  obtain ⟨A', n', g1, g2, g3⟩ := a6 k' hk'
  refine ⟨A', n', g1, g2, fun hn' => ?_⟩
  obtain ⟨b', M, fb, b1, b2, b3, b4, b5⟩ := g3 hn'
  exact ⟨b', M, fb, b1, b2, b3, b4.of_block (hk b' (Ne.symm (rowIs_ne hg b4 hI)) b4.lt), b5⟩
theorem glue_ne_tile : (190 : TypeId) ≠ 167 := by decide
theorem glue_ne_int : (190 : TypeId) ≠ 2 := by decide
/-- the marks on the glues leave the tiles as they are -/
theorem markGlues_any (A B : Option Addr) (n c m k lo hi : Nat) (w : World) (h : MkRow 190 2 lo hi w A n) (h2 : MkTiles 167 2 lo hi w B m) (hh : hi ≤ w.heap.size) (hl : lo ≤ w.heap.size) (hk : k + 2 * n ≤ 4611686018427387904) :
    Calls Tryz.prog 98 #[.slice A n c, .int .i64 (k : Int)] w (MkSide lo hi m B w (k + 2 * n)) := by
  by_cases hn : n = 0
  · refine (markGlueS_any A n c k w.heap.size w.heap.size w (fun h => by omega) (Nat.le_refl _) (Nat.le_refl _) hk).mono ?_
    rintro e w' ⟨he, hm⟩
    exact ⟨he, Mk.of_below hm.below hl, h2.keep fun k _ h3 => hm.below.block k (by omega)⟩
  · obtain ⟨g, N, f0, rfl, hg1, hg2, hrow0, hN⟩ := h (by omega)
    refine (markGlueS_any (some ⟨g, 0, none⟩) n c k g (g + 1) w (fun _ => ⟨g, N, f0, rfl, Nat.le_refl _, by omega, hrow0, hN⟩) hrow0.lt (Nat.le_of_lt hrow0.lt) hk).mono ?_
    rintro e w' ⟨he, hm⟩
    exact ⟨he, hm.weaken hg1 (by omega), h2.far hrow0 glue_ne_tile glue_ne_int hm⟩
set_option maxRecDepth 100000 in
set_option maxHeartbeats 2000000 in
theorem markTileSet_any (A B : Option Addr) (n c m d k lo hi : Nat) (w : World) (h : MkRow 190 2 lo hi w A n) (h2 : MkTiles 167 2 lo hi w B m) (hh : hi ≤ w.heap.size) (hl : lo ≤ w.heap.size) (hk : k + 2 * n + 1073741825 * m ≤ 4611686018427387904) :
    Calls Tryz.prog 48 #[.agg #[.slice A n c, .slice B m d], .int .i64 (k : Int)] w (MkRes2 lo hi w k (k + 2 * n + 1073741825 * m)) := by
  have ha : Below w.heap.size w (w.alloc (.cells #[.slice A n c, .slice B m d] 43)) := bl_al (bl_refl _) _
  have haH := Lib.hid ha
  have h' := Lib.hid (h.below ha hh)
  have h2' := Lib.hid (h2.below ha hh)
  clear h h2 ha
  go_enter Tryz.func48, Tryz.ntmps48
  go_wp2_with fail
  refine (markGlues_any A B n c m k lo hi _ h'.out h2'.out (by simp; omega) (by simp; omega) (by omega)).mono ?_
  rintro e w1 ⟨rfl, hm1, hT1⟩
  have hs1 := hm1.size
  have y1 : w1.cell? ⟨w.heap.size, 1, none⟩ = some (.slice B m d) := (World.cell?_of_block (a := ⟨w.heap.size, 1, none⟩) (hm1.keep w.heap.size hh (by simp))).trans (by go_simp)
  have l1 : w.heap.size < w1.heap.size := by simp at hs1; omega
  have hm1H := Lib.hid hm1
  have hT1H := Lib.hid hT1
  clear hm1 hT1
  go_wp2_with fail
  refine (markTileS_any B m d (k + 2 * n) lo hi _ hT1H.out (by omega) (by omega) (by omega)).mono ?_
  rintro e w2 ⟨r, rfl, hr1, hr2, hm2⟩
  have hm2H := Lib.hid hm2
  clear hm2
  go_wp2
  go_ret
  exact ⟨r, rfl, by omega, hr2, (Mk.of_below haH.out hl).trans (hm1H.out.trans hm2H.out)⟩
theorem markAssembly_any (A : Option Addr) (n c k lo hi : Nat) (w : World) (h : MkRow 100 3 lo hi w A n) (hh : hi ≤ w.heap.size) (hl : lo ≤ w.heap.size) (hk : k + 3 * n ≤ 4611686018427387904) :
    Calls Tryz.prog 19 #[.agg #[.slice A n c], .int .i64 (k : Int)] w (MkRes lo hi w (k + 3 * n)) := by
  have ha : Below w.heap.size w (w.alloc (.cells #[.slice A n c] 37)) := bl_al (bl_refl _) _
  have haH := Lib.hid ha
  have h' := Lib.hid (h.below ha hh)
  clear h ha
  go_enter Tryz.func19, Tryz.ntmps19
  go_wp2_with fail
  refine (markPlacedS_any A n c k lo hi _ h'.out (by simp; omega) (by simp; omega) hk).mono ?_
  rintro e w1 ⟨rfl, hm1⟩
  have hm1H := Lib.hid hm1
  clear hm1
  go_wp2
  go_ret
  exact ⟨rfl, (Mk.of_below haH.out hl).trans hm1H.out⟩
end Go.Proofs.YtglcpphfmmnmkaaGreat
/- Small words for the laws' walks. -/


namespace Go.Proofs.YtglcpphfmmnmkaaGreat
open Go.RowKit
theorem MkRow.lo_ {T : TypeId} {size lo lo' hi : Nat} {w : World} {A : Option Addr} {n : Nat} (h : MkRow T size lo hi w A n) (hl : lo' ≤ lo) : MkRow T size lo' hi w A n := fun hn => by
  obtain ⟨g, N, f, h1, h2, h3, h4, h5⟩ := h hn
  exact ⟨g, N, f, h1, Nat.le_trans hl h2, h3, h4, h5⟩
theorem MkTiles.lo_ {TT TI lo lo' hi : Nat} {w : World} {A : Option Addr} {m : Nat} (h : MkTiles TT TI lo hi w A m) (hl : lo' ≤ lo) : MkTiles TT TI lo' hi w A m := fun hm => by
  obtain ⟨g, N, f, h1, h2, h3, h4, h5, h6⟩ := h hm
  refine ⟨g, N, f, h1, Nat.le_trans hl h2, h3, h4, h5, fun k hk => ?_⟩
  obtain ⟨A', n', g1, g2, g3⟩ := h6 k hk
  exact ⟨A', n', g1, g2, g3.lo_ hl⟩
theorem markAssembly_any2 (A : Option Addr) (n c k lo hi : Nat) (w : World) (h : MkRow 100 3 lo hi w A n) (hh : hi ≤ w.heap.size) (hl : lo ≤ w.heap.size) (hk : k + 3 * n ≤ 4611686018427387904) :
    Calls Tryz.prog 19 #[.agg #[.slice A n c], .int .i64 (k : Int)] w (MkRes2 lo hi w k (k + 3 * n)) :=
  (markAssembly_any A n c k lo hi w h hh hl hk).mono fun _ _ h => ⟨_, h.1, by omega, Nat.le_refl _, h.2⟩
theorem markInt64S_any2 (A : Option Addr) (n c k lo hi : Nat) (w : World) (h : MkRow 2 1 lo hi w A n) (hh : hi ≤ w.heap.size) (hl : lo ≤ w.heap.size) (hk : k + n ≤ 4611686018427387904) :
    Calls Tryz.prog 33 #[.slice A n c, .int .i64 (k : Int)] w (MkRes2 lo hi w k (k + n)) :=
  (markInt64S_any A n c k lo hi w h hh hl hk).mono fun _ _ h => ⟨_, h.1, by omega, Nat.le_refl _, h.2⟩
theorem ownsRow_mk {w w' : World} {base lo hi : Nat} {e : TypeId} {size : Nat} {v : Value} {n : Nat} {xs : List Value} (h : w.ownsRow base e size v n xs) (hm : Mk lo hi w w') (hl : hi ≤ base) : w'.ownsRow base e size v n xs :=
  ⟨h.1, h.2.imp id (fun ⟨g, cap, cur, h1, h2, h3, h4⟩ => ⟨g, cap, cur, h1, h2, (hm.keep g (by omega) (Array.getElem?_eq_some_iff.1 h3).1).trans h3, h4⟩)⟩
theorem rdB {W : World} {base : Nat} {A : Option Addr} {n c : Nat} {bs : List Bd} (h : W.ownsRow base 170 3 (.slice A n c) n (bdCells bs)) (hn : n = bs.length := by rfl) : RdSl 3 RBd W A n bs := by
  subst hn
  obtain ⟨A', cap, e, h'⟩ := rd_of_row h
  injection e with e1 e2 e3
  subst e1
  exact h'
end Go.Proofs.YtglcpphfmmnmkaaGreat
/- Rows of one type lie in no block of another type. -/


namespace Go.Proofs.YtglcpphfmmnmkaaGreat
theorem own_ne_row {w : World} {base : Nat} {e T : TypeId} {size : Nat} {v : Value} {n : Nat} {xs : List Value} {g N : Nat} {f : Nat → Value} (h : w.ownsRow base e size v n xs) (hr : w.rowIs g T N f) (hne : e ≠ T) : v.ownBlock ≠ some g := by
  rcases h.2 with ⟨rfl, _⟩ | ⟨g', cap, cur, rfl, _, hh, _⟩
  · intro hc
    cases hc
  · intro hc
    have hg : some g' = some g := hc
    injection hg with hg
    subst hg
    obtain ⟨cur', hh', _⟩ := hr
    have := Option.some.inj (hh.symm.trans hh')
    injection this with _ h3
    exact hne h3
theorem mkRow_hi {w : World} {base size n c hi : Nat} {e : TypeId} {A : Option Addr} {xs : List Value} (h : w.ownsRow base e size (.slice A n c) n xs) (hh : ∀ g, (Value.slice A n c).ownBlock = some g → g < hi) : MkRow e size base hi w A n := fun hn => by
  obtain ⟨g, N, f, h1, h2, _, h4, h5⟩ := mkRow_of_owns h hn
  exact ⟨g, N, f, h1, h2, hh g (by subst h1; rfl), h4, h5⟩
end Go.Proofs.YtglcpphfmmnmkaaGreat
/- Walks: the harness' counting. -/


namespace Go.Proofs.YtglcpphfmmnmkaaGreat
open Go.RowKit
attribute [local go_sem] BelowBy.cell BelowBy.cell_drew stillUpon givesUpon

theorem szGlue_any (s : ByteArray) (t left : Int) (w : World) (h0 : 0 ≤ left) (h1 : left ≤ 1048576) (hs : s.size ≤ 9223372036854775807) :
    Calls Tryz.prog 127 #[.agg #[.string s, .int .i64 t], .int .i64 left] w (SzRes w left ((s.size : Int) ≤ left)) := by
  by_cases h : (s.size : Int) ≤ left
  · go_enter Tryz.func127, Tryz.ntmps127
    go_wp2
    go_ret
    exact ⟨_, rfl, .inr ⟨by omega, by omega, h⟩, bl_al (bl_refl _) _⟩
  · go_enter Tryz.func127, Tryz.ntmps127
    go_wp2
    go_ret
    exact ⟨_, rfl, .inl rfl, bl_al (bl_refl _) _⟩
theorem szInt64S_any (A : Option Addr) (n c : Nat) (left : Int) (w : World) (h0 : 0 ≤ left) (h1 : left ≤ 1048576) (hs : n ≤ 9223372036854775807) :
    Calls Tryz.prog 163 #[.slice A n c, .int .i64 left] w (SzRes w left ((n : Int) ≤ left)) := by
  by_cases h : (n : Int) ≤ left
  · go_enter Tryz.func163, Tryz.ntmps163
    go_wp2
    go_ret
    exact ⟨_, rfl, .inr ⟨by omega, by omega, h⟩, bl_refl _⟩
  · go_enter Tryz.func163, Tryz.ntmps163
    go_wp2
    go_ret
    exact ⟨_, rfl, .inl rfl, bl_refl _⟩
theorem szPlacedS_any (A : Option Addr) (n c : Nat) (left : Int) (w : World) (h0 : 0 ≤ left) (h1 : left ≤ 1048576) (hs : n ≤ 9223372036854775807) :
    Calls Tryz.prog 36 #[.slice A n c, .int .i64 left] w (SzRes w left ((n : Int) ≤ left)) := by
  by_cases h : (n : Int) ≤ left
  · go_enter Tryz.func36, Tryz.ntmps36
    go_wp2
    go_ret
    exact ⟨_, rfl, .inr ⟨by omega, by omega, h⟩, bl_refl _⟩
  · go_enter Tryz.func36, Tryz.ntmps36
    go_wp2
    go_ret
    exact ⟨_, rfl, .inl rfl, bl_refl _⟩
theorem szAssembly_any (A : Option Addr) (n c : Nat) (left : Int) (w : World) (h0 : 0 ≤ left) (h1 : left ≤ 1048576) (hs : n ≤ 9223372036854775807) :
    Calls Tryz.prog 8 #[.agg #[.slice A n c], .int .i64 left] w (SzRes w left ((n : Int) ≤ left)) := by
  go_enter Tryz.func8, Tryz.ntmps8
  go_wp2_with (go_at_call 36; refine (szPlacedS_any _ _ _ _ _ h0 h1 hs).mono ?_; rintro e w1 ⟨r, rfl, (rfl | ⟨hr0, hr1, hr2⟩), hb1⟩)
  · go_ret
    exact ⟨_, rfl, .inl rfl, bl_tr (bl_al (bl_refl _) _) hb1⟩
  · go_wp2
    go_ret
    exact ⟨_, rfl, .inr ⟨hr0, hr1, hr2⟩, bl_tr (bl_al (bl_refl _) _) hb1⟩
theorem szTile_any (s : ByteArray) (A : Option Addr) (n c : Nat) (left : Int) (w : World) (h0 : 0 ≤ left) (h1 : left ≤ 1048576) (hs : s.size ≤ 9223372036854775807) (hn : n ≤ 9223372036854775807) :
    Calls Tryz.prog 128 #[.agg #[.string s, .slice A n c], .int .i64 left] w (SzRes w left ((s.size : Int) ≤ left ∧ (n : Int) ≤ left)) := by
  by_cases h : (s.size : Int) ≤ left
  · go_enter Tryz.func128, Tryz.ntmps128
    go_wp2_with (go_at_call 163; refine (szInt64S_any _ _ _ _ _ (by omega) (by omega) hn).mono ?_; rintro e w1 ⟨r, rfl, (rfl | ⟨hr0, hr1, hr2⟩), hb1⟩)
    · go_ret
      exact ⟨_, rfl, .inl rfl, bl_tr (bl_al (bl_refl _) _) hb1⟩
    · go_wp2
      go_ret
      exact ⟨_, rfl, .inr ⟨hr0, by omega, h, by omega⟩, bl_tr (bl_al (bl_refl _) _) hb1⟩
  · go_enter Tryz.func128, Tryz.ntmps128
    go_wp2
    go_ret
    exact ⟨_, rfl, .inl rfl, bl_al (bl_refl _) _⟩

set_option maxHeartbeats 1000000 in
theorem szGlueS_any (A : Option Addr) (n c : Nat) (xs : List Gl) (left : Int) (w : World) (h : RdSl 2 RGl w A n xs) (h0 : 0 ≤ left) (h1 : left ≤ 1048576) (hn : n ≤ 9223372036854775807) (hx : ∀ e ∈ xs, e.name.size ≤ 9223372036854775807) :
    Calls Tryz.prog 79 #[.slice A n c, .int .i64 left] w (SzRes w left ((n : Int) ≤ left ∧ ∀ e ∈ xs, (e.name.size : Int) ≤ left)) := by
  by_cases hle : (n : Int) ≤ left
  · go_enter Tryz.func79, Tryz.ntmps79
    go_wp2
    go_loopg [1, 5] n (fun g l i wr => ∃ (k : Nat) (L : Int), k + g = n ∧ i = .int .i64 k ∧ l = .int .i64 L ∧ 0 ≤ L ∧ L ≤ left ∧ (∀ j e, j < k → xs[j]? = some e → (e.name.size : Int) ≤ left) ∧ Below w.heap.size w wr)
    case atStart => exact ⟨0, _, by omega, rfl, rfl, by omega, by omega, fun j e hj => by omega, Below.refl _ _⟩
    case round =>
      obtain ⟨k, L, hk, rfl, rfl, hL0, hL1, hok, hbw⟩ := hrel
      have r1 := h.below RGl.stable hbw
      by_cases hlt : k < n
      · obtain ⟨b, o, rfl, hb, hc⟩ := r1.ptr (by omega)
        obtain ⟨e, he⟩ := h.get hlt
        have HE := Lib.hid he
        obtain ⟨c1, c1b⟩ := hc k e he
        clear hc he r1
        go_wp2_with (go_at_call 127; refine (szGlue_any _ _ _ _ hL0 (by omega) (hx _ (List.mem_of_getElem? HE.out))).mono ?_; rintro e' w1 ⟨r, rfl, (rfl | ⟨hr0, hr1, hr2⟩), hb1⟩)
        · go_ret
          exact ⟨_, rfl, .inl rfl, bl_tr hbw hb1⟩
        · go_wp2
          go_roundg (n - (k + 1))
          case measure => omega
          case rel => exact ⟨k + 1, _, by omega, by go_num, rfl, by omega, by omega, fun j e' hj he' => (by
            rcases Nat.lt_succ_iff_lt_or_eq.1 hj with hj | rfl
            · exact hok j e' hj he'
            · obtain rfl := Option.some.inj (HE.out.symm.trans he'); omega), bl_tr hbw hb1⟩
      · obtain rfl : k = n := by omega
        go_wp2
        go_ret
        exact ⟨_, rfl, .inr ⟨hL0, hL1, hle, fun e he => by
          obtain ⟨j, hj, rfl⟩ := List.mem_iff_getElem.1 he
          exact hok j _ (by have := h.len; omega) (List.getElem?_eq_getElem hj)⟩, hbw⟩
  · go_enter Tryz.func79, Tryz.ntmps79
    go_wp2
    go_ret
    exact ⟨_, rfl, .inl rfl, bl_refl _⟩

set_option maxHeartbeats 1000000 in
theorem szTileS_any (A : Option Addr) (n c : Nat) (xs : List Ti) (left : Int) (w : World) (h : RdSl 2 RTi w A n xs) (h0 : 0 ≤ left) (h1 : left ≤ 1048576) (hn : n ≤ 9223372036854775807) (hx : ∀ e ∈ xs, e.name.size ≤ 9223372036854775807 ∧ e.sides.length ≤ 9223372036854775807) :
    Calls Tryz.prog 80 #[.slice A n c, .int .i64 left] w (SzRes w left ((n : Int) ≤ left ∧ ∀ e ∈ xs, (e.name.size : Int) ≤ left ∧ (e.sides.length : Int) ≤ left)) := by
  by_cases hle : (n : Int) ≤ left
  · go_enter Tryz.func80, Tryz.ntmps80
    go_wp2
    go_loopg [1, 5] n (fun g l i wr => ∃ (k : Nat) (L : Int), k + g = n ∧ i = .int .i64 k ∧ l = .int .i64 L ∧ 0 ≤ L ∧ L ≤ left ∧ (∀ j e, j < k → xs[j]? = some e → (e.name.size : Int) ≤ left ∧ (e.sides.length : Int) ≤ left) ∧ Below w.heap.size w wr)
    case atStart => exact ⟨0, _, by omega, rfl, rfl, by omega, by omega, fun j e hj => by omega, Below.refl _ _⟩
    case round =>
      obtain ⟨k, L, hk, rfl, rfl, hL0, hL1, hok, hbw⟩ := hrel
      have r1 := h.below RTi.stable hbw
      by_cases hlt : k < n
      · obtain ⟨b, o, rfl, hb, hc⟩ := r1.ptr (by omega)
        obtain ⟨e, he⟩ := h.get hlt
        have HE := Lib.hid he
        obtain ⟨c1, A1, n1, d1, c1b, hs1⟩ := hc k e he
        have HL := Lib.hid hs1.len
        have hn1 : n1 ≤ 9223372036854775807 := by rw [← hs1.len]; exact (hx e (List.mem_of_getElem? he)).2
        clear hs1
        clear hc he r1
        go_wp2_with (go_at_call 128; refine (szTile_any _ _ _ _ _ _ hL0 (by omega) (hx _ (List.mem_of_getElem? HE.out)).1 hn1).mono ?_; rintro e' w1 ⟨r, rfl, (rfl | ⟨hr0, hr1, hr2⟩), hb1⟩)
        · go_ret
          exact ⟨_, rfl, .inl rfl, bl_tr hbw hb1⟩
        · go_wp2
          go_roundg (n - (k + 1))
          case measure => omega
          case rel => exact ⟨k + 1, _, by omega, by go_num, rfl, by omega, by omega, fun j e' hj he' => (by
            rcases Nat.lt_succ_iff_lt_or_eq.1 hj with hj | rfl
            · exact hok j e' hj he'
            · obtain rfl := Option.some.inj (HE.out.symm.trans he'); rw [HL.out]; omega), bl_tr hbw hb1⟩
      · obtain rfl : k = n := by omega
        go_wp2
        go_ret
        exact ⟨_, rfl, .inr ⟨hL0, hL1, hle, fun e he => by
          obtain ⟨j, hj, rfl⟩ := List.mem_iff_getElem.1 he
          exact hok j _ (by have := h.len; omega) (List.getElem?_eq_getElem hj)⟩, hbw⟩
  · go_enter Tryz.func80, Tryz.ntmps80
    go_wp2
    go_ret
    exact ⟨_, rfl, .inl rfl, bl_refl _⟩

theorem szTileSet_any (A B : Option Addr) (n c m d : Nat) (gs : List Gl) (ts : List Ti) (left : Int) (w : World) (h : RdSl 2 RGl w A n gs) (k : RdSl 2 RTi w B m ts) (h0 : 0 ≤ left) (h1 : left ≤ 1048576) (hn : n ≤ 9223372036854775807) (hm : m ≤ 9223372036854775807)
    (hx : ∀ e ∈ gs, e.name.size ≤ 9223372036854775807) (hy : ∀ e ∈ ts, e.name.size ≤ 9223372036854775807 ∧ e.sides.length ≤ 9223372036854775807) :
    Calls Tryz.prog 35 #[.agg #[.slice A n c, .slice B m d], .int .i64 left] w (SzRes w left (((n : Int) ≤ left ∧ ∀ e ∈ gs, (e.name.size : Int) ≤ left) ∧ ((m : Int) ≤ left ∧ ∀ e ∈ ts, (e.name.size : Int) ≤ left ∧ (e.sides.length : Int) ≤ left))) := by
  have hb0 : ∀ o1, Below w.heap.size w (w.alloc o1) := fun o1 => bl_al (bl_refl _) _
  go_enter Tryz.func35, Tryz.ntmps35
  go_wp2_with (go_at_call 79; refine (szGlueS_any _ _ _ gs _ _ (h.below RGl.stable (hb0 _)) h0 h1 hn hx).mono ?_; rintro e w1 ⟨r, rfl, (rfl | ⟨hr0, hr1, hr2⟩), hb1⟩; all_goals (obtain ⟨cb1, fb1, sb1, tb1⟩ := bcell hb1; have bb1 := sb1 w.heap.size (by go_simp)))
  · go_ret
    exact ⟨_, rfl, .inl rfl, bl_tr (bl_al (bl_refl _) _) hb1⟩
  · have HR := Lib.hid hr2
    clear hr2
    go_wp2_with (go_at_call 80; refine (szTileS_any _ _ _ ts _ _ (k.below RTi.stable (bl_tr (hb0 _) hb1)) hr0 (by omega) hm hy).mono ?_; rintro e w2 ⟨r2, rfl, (rfl | ⟨hq0, hq1, hq2⟩), hb2⟩)
    · go_ret
      exact ⟨_, rfl, .inl rfl, bl_tr (bl_tr (bl_al (bl_refl _) _) hb1) hb2⟩
    · have HQ := Lib.hid hq2
      clear hq2
      go_wp2
      go_ret
      exact ⟨_, rfl, .inr ⟨hq0, by omega, HR.out, by have := HQ.out.1; omega, fun e he => by have := HQ.out.2 e he; omega⟩, bl_tr (bl_tr (bl_al (bl_refl _) _) hb1) hb2⟩
end Go.Proofs.YtglcpphfmmnmkaaGreat
/- Walks: the harness' words on systems: their size, a copy, the comparison. -/



namespace Go.Proofs.YtglcpphfmmnmkaaGreat
open Go.RowKit
attribute [local go_sem] BelowBy.cell BelowBy.cell_drew stillUpon givesUpon

set_option maxHeartbeats 1000000 in
theorem szSystem_any (A B C : Option Addr) (n c m d q e : Nat) (gs : List Gl) (ts : List Ti) (t left : Int) (w : World) (h : RdSl 2 RGl w A n gs) (k : RdSl 2 RTi w B m ts) (h0 : 0 ≤ left) (h1 : left ≤ 1048576) (hn : n ≤ 9223372036854775807) (hm : m ≤ 9223372036854775807)
    (hx : ∀ e ∈ gs, e.name.size ≤ 9223372036854775807) (hy : ∀ e ∈ ts, e.name.size ≤ 9223372036854775807 ∧ e.sides.length ≤ 9223372036854775807) (hq : q ≤ 9223372036854775807) :
    Calls Tryz.prog 7 #[.agg #[.slice A n c, .slice B m d, .slice C q e, .int .i64 t], .int .i64 left] w (SzRes w left ((((n : Int) ≤ left ∧ ∀ e ∈ gs, (e.name.size : Int) ≤ left) ∧ ((m : Int) ≤ left ∧ ∀ e ∈ ts, (e.name.size : Int) ≤ left ∧ (e.sides.length : Int) ≤ left)) ∧ (q : Int) ≤ left)) := by
  have hb0 : ∀ o1, Below w.heap.size w (w.alloc o1) := fun o1 => bl_al (bl_refl _) _
  go_enter Tryz.func7, Tryz.ntmps7
  go_wp2_with (go_at_call 35; refine (szTileSet_any _ _ _ _ _ _ gs ts _ _ (h.below RGl.stable (hb0 _)) (k.below RTi.stable (hb0 _)) h0 h1 hn hm hx hy).mono ?_; rintro e w1 ⟨r, rfl, (rfl | ⟨hr0, hr1, hr2⟩), hb1⟩; all_goals (obtain ⟨cb1, fb1, sb1, tb1⟩ := bcell hb1; have bb1 := sb1 w.heap.size (by go_simp)))
  · go_ret
    exact ⟨_, rfl, .inl rfl, bl_tr (bl_al (bl_refl _) _) hb1⟩
  · have HR := Lib.hid hr2
    clear hr2
    go_wp2_with (go_at_call 8; refine (szAssembly_any _ _ _ _ _ hr0 (by omega) hq).mono ?_; rintro e w2 ⟨r2, rfl, (rfl | ⟨hq0, hq1, hq2⟩), hb2⟩)
    · go_ret
      exact ⟨_, rfl, .inl rfl, bl_tr (bl_tr (bl_al (bl_refl _) _) hb1) hb2⟩
    · go_wp2
      go_ret
      exact ⟨_, rfl, .inr ⟨hq0, by omega, HR.out, by omega⟩, bl_tr (bl_tr (bl_al (bl_refl _) _) hb1) hb2⟩
/-- a system that was copied -/
def ResSys (TG TT TI TP : Nat) (w : World) (n : Nat) (gs : List Gl) (m : Nat) (ts : List Ti) (q : Nat) (xs : List Pl) (t : Int) (e : Ending) (w' : World) : Prop :=
  ∃ A B C, e = .returned (.agg #[.slice A n n, .slice B m m, .slice C q q, .int .i64 t]) ∧ OwSl TG 2 RGl w' w.heap.size A n gs ∧ OwSl TT 2 (ROTi TI w.heap.size) w' w.heap.size B m ts ∧ OwSl TP 3 RPl w' w.heap.size C q xs ∧ Below w.heap.size w w'
set_option maxRecDepth 100000 in
set_option maxHeartbeats 2000000 in
theorem toSystem_any (A B C : Option Addr) (n c m d q e : Nat) (gs : List Gl) (ts : List Ti) (xs : List Pl) (t : Int) (w : World) (h : RdSl 2 RGl w A n gs) (k : RdSl 2 RTi w B m ts) (j : RdSl 3 RPl w C q xs) (hn : n ≤ 1073741824) (hm : m ≤ 1073741824) (hx : ∀ e ∈ ts, e.sides.length ≤ 1073741824) (hq : q ≤ 1073741824) :
    Calls Tryz.prog 11 #[.agg #[.slice A n c, .slice B m d, .slice C q e, .int .i64 t]] w (ResSys 190 167 2 100 w n gs m ts q xs t) := by
  go_enter Tryz.func11, Tryz.ntmps11
  go_wp2_with (go_at_call 40; refine (toTileSet_any _ _ _ _ _ _ gs ts _ (h.below RGl.stable (by exact bel_)) (k.below RTi.stable (by exact bel_)) hn hm hx).mono ?_; rintro e w1 ⟨A', B', rfl, how, how2, hb1⟩; obtain ⟨chb1, fhb1, shb1, thb1⟩ := bcell hb1; (have b0 := shb1 w.heap.size (by go_simp)); (have b1 := shb1 (w.heap.size + 1) (by go_simp)); (have b2 := shb1 (w.heap.size + 1 + 1) (by go_simp)))
  go_wp2_with (go_at_call 12; refine (toAssembly_any _ _ _ xs _ (j.below RPl.stable (by exact bel_)) hq).mono ?_; rintro e w2 ⟨C', rfl, how3, hb2⟩; obtain ⟨chb2, fhb2, shb2, thb2⟩ := bcell hb2; (have c0 := shb2 w.heap.size (by go_simp)); (have c1 := shb2 (w.heap.size + 1) (by go_simp)); (have c2 := shb2 (w.heap.size + 1 + 1) (by go_simp)))
  refine bodyPost_ret (v := .agg #[.slice A' n n, .slice B' m m, .slice C' q q, .int .i64 t]) (by simp only [results, Tryz.results11]; go_simp) rfl ?_
  have e1 : w.heap.size ≤ w1.heap.size := by omega
  refine ⟨A', B', C', rfl, (((((((((how.set (RGl.stableAt _) ?_ _).set (RGl.stableAt _) ?_ _).below RGl.stable hb2).set (RGl.stableAt _) ?_ _).set (RGl.stableAt _) ?_ _).set (RGl.stableAt _) ?_ _).set (RGl.stableAt _) ?_ _).set (RGl.stableAt _) ?_ _).set (RGl.stableAt _) ?_ _).weaken ?_,
    (((((((((how2.set (ROTi.stableAt _ _) ?_ _).set (ROTi.stableAt _ _) ?_ _).below (ROTi.stable _ _) hb2).set (ROTi.stableAt _ _) ?_ _).set (ROTi.stableAt _ _) ?_ _).set (ROTi.stableAt _ _) ?_ _).set (ROTi.stableAt _ _) ?_ _).set (ROTi.stableAt _ _) ?_ _).set (ROTi.stableAt _ _) ?_ _).weakenTi ?_ ?_,
    ((((((how3.set (RPl.stableAt _) ?_ _).set (RPl.stableAt _) ?_ _).set (RPl.stableAt _) ?_ _).set (RPl.stableAt _) ?_ _).set (RPl.stableAt _) ?_ _).set (RPl.stableAt _) ?_ _).weaken ?_, ?_⟩
  all_goals exact bel_
set_option maxHeartbeats 1000000 in
theorem eqSystem_same (A B A2 B2 A3 B3 : Option Addr) (n c d m c2 d2 q c3 d3 : Nat) (gs : List Gl) (ts : List Ti) (xs : List Pl) (t : Int) (w : World) (h1 : RdSl 2 RGl w A n gs) (h2 : RdSl 2 RGl w B n gs) (k1 : RdSl 2 RTi w A2 m ts) (k2 : RdSl 2 RTi w B2 m ts) (j1 : RdSl 3 RPl w A3 q xs) (j2 : RdSl 3 RPl w B3 q xs)
    (hn : n ≤ 1073741824) (hm : m ≤ 1073741824) (hx : ∀ e ∈ ts, e.sides.length ≤ 1073741824) (hq : q ≤ 1073741824) :
    Calls Tryz.prog 16 #[.agg #[.slice A n c, .slice A2 m c2, .slice A3 q c3, .int .i64 t], .agg #[.slice B n d, .slice B2 m d2, .slice B3 q d3, .int .i64 t]] w fun e w' => e = .returned (.bool true) ∧ Below w.heap.size w w' := by
  have hb0 : ∀ o1 o2, Below w.heap.size w ((w.alloc o1).alloc o2) := fun o1 o2 => bl_al (bl_al (bl_refl _) _) _
  
  go_enter Tryz.func16, Tryz.ntmps16
  go_wp2_with (first | (go_at_call 46; refine (eqTileSet_same _ _ _ _ _ _ _ _ _ _ gs ts _ (h1.below RGl.stable (hb0 _ _)) (h2.below RGl.stable (hb0 _ _)) (k1.below RTi.stable (hb0 _ _)) (k2.below RTi.stable (hb0 _ _)) hn hm hx).mono ?_; rintro e w1 ⟨rfl, hb1⟩; obtain ⟨chb1, fhb1, shb1, thb1⟩ := bcell hb1; (try have bhb10 := shb1 (w.heap.size) (by go_simp)); (try have bhb11 := shb1 (w.heap.size + 1) (by go_simp))) | (go_at_call 15; refine (eqAssembly_same _ _ _ _ _ xs _ (j1.below RPl.stable (bl_tr (hb0 _ _) hb1)) (j2.below RPl.stable (bl_tr (hb0 _ _) hb1)) hq).mono ?_; rintro e w2 ⟨rfl, hb2⟩; obtain ⟨chb2, fhb2, shb2, thb2⟩ := bcell hb2; (try have bhb20 := shb2 (w.heap.size) (by go_simp)); (try have bhb21 := shb2 (w.heap.size + 1) (by go_simp))))
  go_ret
  refine ⟨rfl, ?_⟩
  exact bel_
end Go.Proofs.YtglcpphfmmnmkaaGreat
/- Walks: the harness' marks on systems. -/


namespace Go.Proofs.YtglcpphfmmnmkaaGreat
open Go.RowKit
attribute [local go_sem] BelowBy.cell BelowBy.cell_drew stillUpon givesUpon

theorem MkTiles.setLow {TT TI lo hi : Nat} {w : World} {A : Option Addr} {m : Nat} (h : MkTiles TT TI lo hi w A m) {p : Addr} (hp : p.block < lo) (u : Value) : MkTiles TT TI lo hi (w.setCell p u) A m :=
  h.keep fun k hk _ => Below.heap_setCell w p u k (by omega)
theorem MkRow.setLow {T : TypeId} {size lo hi : Nat} {w : World} {A : Option Addr} {n : Nat} (h : MkRow T size lo hi w A n) {p : Addr} (hp : p.block < lo) (u : Value) : MkRow T size lo hi (w.setCell p u) A n :=
  h.keep fun k hk _ => Below.heap_setCell w p u k (by omega)
theorem MkRow.hi_ {T : TypeId} {size lo hi hi' : Nat} {w : World} {A : Option Addr} {n : Nat} (h : MkRow T size lo hi w A n) (hl : hi ≤ hi') : MkRow T size lo hi' w A n := fun hn => by
  obtain ⟨g, N, f, h1, h2, h3, h4, h5⟩ := h hn
  exact ⟨g, N, f, h1, h2, Nat.lt_of_lt_of_le h3 hl, h4, h5⟩
/-- what may be marked of a system that was copied: the set's blocks lie below md, the seed's from md on -/
structure MkSys (lo md hi : Nat) (w : World) (A B C : Option Addr) (n m q : Nat) : Prop where
  lm : lo ≤ md
  mh : md ≤ hi
  g : MkRow 190 2 lo md w A n
  t : MkTiles 167 2 lo md w B m
  p : MkRow 100 3 md hi w C q
theorem MkSys.below {lo md hi : Nat} {w w' : World} {A B C : Option Addr} {n m q : Nat} (h : MkSys lo md hi w A B C n m q) (hb : Below w.heap.size w w') (hh : hi ≤ w.heap.size) : MkSys lo md hi w' A B C n m q :=
  ⟨h.lm, h.mh, h.g.below hb (Nat.le_trans h.mh hh), h.t.below hb (Nat.le_trans h.mh hh), h.p.below hb hh⟩
theorem MkSys.mkd {lo md hi lo' hi' : Nat} {w w' : World} {A B C : Option Addr} {n m q : Nat} (h : MkSys lo md hi w A B C n m q) (hb : Mk lo' hi' w w') (h1 : hi' ≤ lo) (hh : hi ≤ w.heap.size) : MkSys lo md hi w' A B C n m q :=
  ⟨h.lm, h.mh, h.g.mk hb h1 (Nat.le_trans h.mh hh), h.t.mk hb h1 (Nat.le_trans h.mh hh), h.p.mk hb (Nat.le_trans h1 h.lm) hh⟩
theorem MkSys.lo_ {lo lo' md hi : Nat} {w : World} {A B C : Option Addr} {n m q : Nat} (h : MkSys lo md hi w A B C n m q) (hl : lo' ≤ lo) : MkSys lo' md hi w A B C n m q :=
  ⟨Nat.le_trans hl h.lm, h.mh, h.g.lo_ hl, h.t.lo_ hl, h.p⟩
/-- a system that was copied, and may be marked -/
def ResSysM (TG TT TI TP : Nat) (w : World) (n : Nat) (gs : List Gl) (m : Nat) (ts : List Ti) (q : Nat) (xs : List Pl) (t : Int) (e : Ending) (w' : World) : Prop :=
  ∃ A B C md, e = .returned (.agg #[.slice A n n, .slice B m m, .slice C q q, .int .i64 t]) ∧ OwSl TG 2 RGl w' w.heap.size A n gs ∧ OwSl TT 2 (ROTi TI w.heap.size) w' w.heap.size B m ts ∧ OwSl TP 3 RPl w' w.heap.size C q xs ∧ MkSys w.heap.size md w'.heap.size w' A B C n m q ∧ Below w.heap.size w w'
set_option maxRecDepth 100000 in
set_option maxHeartbeats 2000000 in
theorem toSystemM_any (A B C : Option Addr) (n c m d q e : Nat) (gs : List Gl) (ts : List Ti) (xs : List Pl) (t : Int) (w : World) (h : RdSl 2 RGl w A n gs) (k : RdSl 2 RTi w B m ts) (j : RdSl 3 RPl w C q xs) (hn : n ≤ 1073741824) (hm : m ≤ 1073741824) (hx : ∀ e ∈ ts, e.sides.length ≤ 1073741824) (hq : q ≤ 1073741824) :
    Calls Tryz.prog 11 #[.agg #[.slice A n c, .slice B m d, .slice C q e, .int .i64 t]] w (ResSysM 190 167 2 100 w n gs m ts q xs t) := by
  go_enter Tryz.func11, Tryz.ntmps11
  go_wp2_with (go_at_call 40; refine (toTileSet_any _ _ _ _ _ _ gs ts _ (h.below RGl.stable (by exact bel_)) (k.below RTi.stable (by exact bel_)) hn hm hx).mono ?_; rintro e w1 ⟨A', B', rfl, how, how2, hb1⟩; obtain ⟨chb1, fhb1, shb1, thb1⟩ := bcell hb1; (have b0 := shb1 w.heap.size (by go_simp)); (have b1 := shb1 (w.heap.size + 1) (by go_simp)); (have b2 := shb1 (w.heap.size + 1 + 1) (by go_simp)))
  go_wp2_with (go_at_call 12; refine (toAssembly_any _ _ _ xs _ (j.below RPl.stable (by exact bel_)) hq).mono ?_; rintro e w2 ⟨C', rfl, how3, hb2⟩; obtain ⟨chb2, fhb2, shb2, thb2⟩ := bcell hb2; (have c0 := shb2 w.heap.size (by go_simp)); (have c1 := shb2 (w.heap.size + 1) (by go_simp)); (have c2 := shb2 (w.heap.size + 1 + 1) (by go_simp)))
  refine bodyPost_ret (v := .agg #[.slice A' n n, .slice B' m m, .slice C' q q, .int .i64 t]) (by simp only [results, Tryz.results11]; go_simp) rfl ?_
  have e1 : w.heap.size ≤ w1.heap.size := by omega
  have hs2 := hb2.size
  refine ⟨A', B', C', w1.heap.size, rfl, (((((((((how.set (RGl.stableAt _) ?_ _).set (RGl.stableAt _) ?_ _).below RGl.stable hb2).set (RGl.stableAt _) ?_ _).set (RGl.stableAt _) ?_ _).set (RGl.stableAt _) ?_ _).set (RGl.stableAt _) ?_ _).set (RGl.stableAt _) ?_ _).set (RGl.stableAt _) ?_ _).weaken ?_,
    (((((((((how2.set (ROTi.stableAt _ _) ?_ _).set (ROTi.stableAt _ _) ?_ _).below (ROTi.stable _ _) hb2).set (ROTi.stableAt _ _) ?_ _).set (ROTi.stableAt _ _) ?_ _).set (ROTi.stableAt _ _) ?_ _).set (ROTi.stableAt _ _) ?_ _).set (ROTi.stableAt _ _) ?_ _).set (ROTi.stableAt _ _) ?_ _).weakenTi ?_ ?_,
    ((((((how3.set (RPl.stableAt _) ?_ _).set (RPl.stableAt _) ?_ _).set (RPl.stableAt _) ?_ _).set (RPl.stableAt _) ?_ _).set (RPl.stableAt _) ?_ _).set (RPl.stableAt _) ?_ _).weaken ?_,
    ⟨e1, ?_, (((((((((how.mk_).setLow ?_ _).setLow ?_ _).below hb2 ?_).setLow ?_ _).setLow ?_ _).setLow ?_ _).setLow ?_ _).setLow ?_ _).setLow ?_ _ |>.lo_ ?_,
      (((((((((how2.mkTiles hx).setLow ?_ _).setLow ?_ _).below hb2 ?_).setLow ?_ _).setLow ?_ _).setLow ?_ _).setLow ?_ _).setLow ?_ _).setLow ?_ _ |>.lo_ ?_,
      (((((((how3.mk_).setLow ?_ _).setLow ?_ _).setLow ?_ _).setLow ?_ _).setLow ?_ _).setLow ?_ _).lo_ ?_ |>.hi_ ?_⟩, ?_⟩
  all_goals exact bel_
set_option maxRecDepth 100000 in
set_option maxHeartbeats 1000000 in
theorem markSystem_any (A B C : Option Addr) (n c m d q e k lo md hi : Nat) (t : Int) (w : World) (h : MkSys lo md hi w A B C n m q) (hh : hi ≤ w.heap.size) (hl : lo ≤ w.heap.size) (hk : k + 2 * n + 1073741825 * m + 3 * q ≤ 4611686018427387904) :
    Calls Tryz.prog 18 #[.agg #[.slice A n c, .slice B m d, .slice C q e, .int .i64 t], .int .i64 (k : Int)] w (MkRes2 lo hi w k (k + 2 * n + 1073741825 * m + 3 * q)) := by
  have ha : Below w.heap.size w (w.alloc (.cells #[.slice A n c, .slice B m d, .slice C q e, .int .i64 t] 45)) := bl_al (bl_refl _) _
  have haH := Lib.hid ha
  have h' := Lib.hid (h.below ha hh)
  have lm := h.lm
  have mh := h.mh
  clear h ha
  go_enter Tryz.func18, Tryz.ntmps18
  go_wp2_with fail
  refine (markTileSet_any A B n c m d k lo md _ h'.out.g h'.out.t (by simp; omega) (by simp; omega) (by omega)).mono ?_
  rintro e1 w1 ⟨r, rfl, hr1, hr2, hm1⟩
  have hs1 := hm1.size
  have y1 : w1.cell? ⟨w.heap.size, 2, none⟩ = some (.slice C q e) := (World.cell?_of_block (a := ⟨w.heap.size, 2, none⟩) (hm1.keep w.heap.size (by omega) (by simp))).trans (by go_simp)
  have l1 : w.heap.size < w1.heap.size := by simp at hs1; omega
  have hm1H := Lib.hid hm1
  have hp := Lib.hid (h'.out.p.mk hm1 (Nat.le_refl _) (by simp; omega))
  clear hm1
  go_wp2_with fail
  refine (markAssembly_any2 C q e r md hi _ hp.out (by omega) (by omega) (by omega)).mono ?_
  rintro e2 w2 ⟨r2, rfl, hr3, hr4, hm2⟩
  have hm2H := Lib.hid hm2
  clear hm2
  go_wp2
  go_ret
  exact ⟨r2, rfl, by omega, by omega, (Mk.of_below haH.out hl).trans ((hm1H.out.weaken (Nat.le_refl _) mh).trans (hm2H.out.weaken lm (Nat.le_refl _)))⟩
end Go.Proofs.YtglcpphfmmnmkaaGreat
/- The rule for regions that draw their order, when one laying of a block may come up at any time among the others. -/

namespace Go.Proofs.YtglcpphfmmnmkaaGreat
open Go.RowKit
/-- The block may be laid between two steps: st is the block, if it has been laid. -/
def Mv (z : Obj) (st : Option Nat) (w : World) (st' : Option Nat) (W : World) : Prop := (st' = st ∧ W = w) ∨ (st = none ∧ st' = some w.heap.size ∧ W = w.alloc z)
theorem Mv.below {z : Obj} {st st' : Option Nat} {w W : World} (h : Mv z st w st' W) : Below w.heap.size w W := by
  rcases h with ⟨_, rfl⟩ | ⟨_, _, rfl⟩
  · exact Below.refl _ _
  · exact (Below.refl _ _).alloc (Nat.le_refl _) _
/-- what is known of the block -/
def FlAt (z : Obj) (lo : Nat) (st : Option Nat) (w : World) : Prop := lo ≤ w.heap.size ∧ ∀ b, st = some b → lo ≤ b ∧ w.heap[b]? = some z
theorem FlAt.none (z : Obj) (w : World) : FlAt z w.heap.size .none w := ⟨Nat.le_refl _, fun b h => by cases h⟩
theorem FlAt.mv {z : Obj} {lo : Nat} {st st' : Option Nat} {w W : World} (h : FlAt z lo st w) (hm : Mv z st w st' W) : FlAt z lo st' W := by
  rcases hm with ⟨rfl, rfl⟩ | ⟨rfl, rfl, rfl⟩
  · exact h
  · refine ⟨Nat.le_trans h.1 (by simp), fun b hb => ?_⟩
    injection hb with hb
    subst hb
    exact ⟨h.1, by show (w.heap.push z)[w.heap.size]? = some z; simp⟩
theorem FlAt.below {z : Obj} {lo : Nat} {st : Option Nat} {w W : World} (h : FlAt z lo st w) (hb : Below w.heap.size w W) : FlAt z lo st W :=
  ⟨Nat.le_trans h.1 hb.size, fun b e => ⟨(h.2 b e).1, (hb.block b ((Array.getElem?_eq_some_iff.1 (h.2 b e).2).1)).trans (h.2 b e).2⟩⟩
theorem FlAt.lt {z : Obj} {lo b : Nat} {w : World} (h : FlAt z lo (some b) w) : b < w.heap.size := (Array.getElem?_eq_some_iff.1 (h.2 b rfl).2).1
/-- the block is none of a step's own -/
def FlOut (lo hi : Nat) (st : Option Nat) : Prop := ∀ b, st = some b → b < lo ∨ hi ≤ b
theorem FlOut.of {z : Obj} {lo : Nat} {st : Option Nat} {w : World} (h : FlAt z lo st w) (hi : Nat) : FlOut w.heap.size hi st := fun b e => by subst e; exact .inl h.lt
theorem FlOut.mv {z : Obj} {lo hi : Nat} {st st' : Option Nat} {w W : World} (h : FlOut lo hi st) (hm : Mv z st w st' W) (hh : hi ≤ w.heap.size) : FlOut lo hi st' := by
  rcases hm with ⟨rfl, rfl⟩ | ⟨rfl, rfl, rfl⟩
  · exact h
  · intro b e; injection e with e; subst e; exact .inr hh
section
variable {P : Program} {ops : Array Oper}
def wpL (P : Program) (ops : Array Oper) (z : Obj) (F : Nat → Act → World → Prop) : List (Oper × Tag) → Option Nat → Act → World → Prop
  | [], st, a, w => ∀ b W, Mv z st w (some b) W → F b a W
  | (o, .q) :: rest, st, a, w =>
    if Region.wanted o (yielded ops a.tmps) then ∃ v, (∀ p : BelowBy w, stillUpon p.world v ((execOp a.eval o).run P p.world)) ∧ wpL P ops z F rest st (a.put o.dst v) w
    else wpL P ops z F rest st (a.put o.dst undef) w
  | (o, .p) :: rest, st, a, w =>
    if Region.wanted o (yielded ops a.tmps) then ∃ v, (∀ W : World, stillUpon W v ((execOp a.eval o).run P W)) ∧ wpL P ops z F rest st (a.put o.dst v) w
    else wpL P ops z F rest st (a.put o.dst undef) w
  | (o, .g) :: rest, st, a, w =>
    if Region.wanted o (yielded ops a.tmps) then ∀ st' W, Mv z st w st' W → givesUpon P (fun v w' => Below W.heap.size W w' ∧ wpL P ops z F rest st' (a.put o.dst v) w') ((execOp a.eval o).run P W)
    else wpL P ops z F rest st (a.put o.dst undef) w
  | (_, .b) :: _, _, _, _ => False
variable {z : Obj} {F : Nat → Act → World → Prop}
theorem wpL_q {o : Oper} {rest : List (Oper × Tag)} {st : Option Nat} {a : Act} {w : World}
    (h : ∀ K : Act → Prop, (∀ a, wpL P ops z F rest st a w → K a) → if Region.wanted o (yielded ops a.tmps) then ∃ v, (∀ p : BelowBy w, stillUpon p.world v ((execOp a.eval o).run P p.world)) ∧ K (a.put o.dst v) else K (a.put o.dst undef)) :
    wpL P ops z F ((o, .q) :: rest) st a w := h _ fun _ h => h
theorem wpL_p {o : Oper} {rest : List (Oper × Tag)} {st : Option Nat} {a : Act} {w : World}
    (h : ∀ K : Act → Prop, (∀ a, wpL P ops z F rest st a w → K a) → if Region.wanted o (yielded ops a.tmps) then ∃ v, (∀ W : World, stillUpon W v ((execOp a.eval o).run P W)) ∧ K (a.put o.dst v) else K (a.put o.dst undef)) :
    wpL P ops z F ((o, .p) :: rest) st a w := h _ fun _ h => h
theorem wpL_g {o : Oper} {rest : List (Oper × Tag)} {st : Option Nat} {a : Act} {w : World} (hgd : o.guard = none)
    (h : ∀ K : Option Nat → Act → World → Prop, (∀ st' a w', wpL P ops z F rest st' a w' → K st' a w') → ∀ st' W, Mv z st w st' W → givesUpon P (fun v w' => Grew W w' ∧ K st' (a.put o.dst v) w') ((execOp a.eval o).run P W)) :
    wpL P ops z F ((o, .g) :: rest) st a w := by
  have hw : Region.wanted o (yielded ops a.tmps) = true := by simp [Region.wanted, hgd]
  simp only [wpL, hw, if_true]
  exact h _ fun _ _ _ h => h
theorem wpL_nil {st : Option Nat} {a : Act} {w : World} (h : ∀ b W, Mv z st w (some b) W → F b a W) : wpL P ops z F [] st a w := h

theorem wpL_alloc : ∀ (l : List (Oper × Tag)) (a : Act) (w : World), wpL P ops z F l none a w → wpL P ops z F l (some w.heap.size) a (w.alloc z)
  | [], a, w, h => fun b W hm => h b W (by
      rcases hm with ⟨e, rfl⟩ | ⟨e, _, _⟩
      · exact .inr ⟨rfl, e, rfl⟩
      · cases e)
  | (o, .q) :: rest, a, w, h => by
    simp only [wpL] at h ⊢
    split at h <;> rename_i hw <;> simp only [hw, if_true, if_false, Bool.false_eq_true]
    · obtain ⟨v, h1, h2⟩ := h
      exact ⟨v, fun p => h1 ⟨p.world, ((Below.refl _ _).alloc (Nat.le_refl _) z).trans (p.h.mono (by simp))⟩, wpL_alloc rest _ _ h2⟩
    · exact wpL_alloc rest _ _ h
  | (o, .p) :: rest, a, w, h => by
    simp only [wpL] at h ⊢
    split at h <;> rename_i hw <;> simp only [hw, if_true, if_false, Bool.false_eq_true]
    · obtain ⟨v, h1, h2⟩ := h
      exact ⟨v, h1, wpL_alloc rest _ _ h2⟩
    · exact wpL_alloc rest _ _ h
  | (o, .g) :: rest, a, w, h => by
    simp only [wpL] at h ⊢
    split at h <;> rename_i hw <;> simp only [hw, if_true, if_false, Bool.false_eq_true]
    · intro st' W hm
      refine h st' W ?_
      rcases hm with ⟨e, rfl⟩ | ⟨e, _, _⟩
      · exact .inr ⟨rfl, e, rfl⟩
      · cases e
    · exact wpL_alloc rest _ _ h
  | (o, .b) :: rest, a, w, h => h

theorem exchL {oj : Oper} {tj : Tag} {post : List (Oper × Tag)} (hsj : ∀ cs b, oj.op ≠ .select cs b) (st : Option Nat) : ∀ (pre : List (Oper × Tag)) (a : Act) (w : World),
    (∀ x ∈ pre, (x.2 = .q ∨ x.2 = .p) ∧ x.1.apart ops oj = true ∧ ∀ cs b, x.1.op ≠ .select cs b) → wpL P ops z F (pre ++ (oj, tj) :: post) st a w →
    opStep P ops oj (fun v w' => Below w.heap.size w w' ∧ wpL P ops z F (pre ++ post) st (a.put oj.dst v) w') a w
  | [], a, w, _, h => by
    unfold opStep
    simp only [List.nil_append] at h ⊢
    cases tj <;> simp only [wpL] at h
    · split at h <;> rename_i hw <;> simp only [hw, if_true, if_false, Bool.false_eq_true]
      · obtain ⟨v, h1, h2⟩ := h
        exact givesUpon_of_still (h1 ⟨w, Below.refl _ _⟩) ⟨Below.refl _ _, h2⟩
      · exact ⟨Below.refl _ _, h⟩
    · split at h <;> rename_i hw <;> simp only [hw, if_true, if_false, Bool.false_eq_true]
      · exact h st w (.inl ⟨rfl, rfl⟩)
      · exact ⟨Below.refl _ _, h⟩
    · split at h <;> rename_i hw <;> simp only [hw, if_true, if_false, Bool.false_eq_true]
      · obtain ⟨v, h1, h2⟩ := h
        exact givesUpon_of_still (h1 w) ⟨Below.refl _ _, h2⟩
      · exact ⟨Below.refl _ _, h⟩
  | (op, t) :: pre, a, w, hp, h => by
    obtain ⟨ht, hap, hsp⟩ := hp (op, t) (by simp)
    simp only at ht hap hsp
    obtain ⟨h1, h2, h3⟩ := Oper.apart_spec hap
    have hp' : ∀ x ∈ pre, (x.2 = .q ∨ x.2 = .p) ∧ x.1.apart ops oj = true ∧ ∀ cs b, x.1.op ≠ .select cs b := fun x hx => hp x (by simp [hx])
    have key : ∀ v, (∀ w', Below w.heap.size w w' → ∀ u, wpL P ops z F (pre ++ post) st ((a.put oj.dst u).put op.dst v) w' → wpL P ops z F ((op, t) :: (pre ++ post)) st (a.put oj.dst u) w') →
        wpL P ops z F (pre ++ (oj, tj) :: post) st (a.put op.dst v) w → opStep P ops oj (fun v w' => Below w.heap.size w w' ∧ wpL P ops z F ((op, t) :: pre ++ post) st (a.put oj.dst v) w') a w := by
      intro v hk hh
      have ih := exchL hsj st pre (a.put op.dst v) w hp' hh
      unfold opStep at ih ⊢
      rw [wanted_put oj a op.dst v h1, execOp_put oj hsj a op.dst v h1] at ih
      split at ih <;> rename_i hw <;> simp only [hw, if_true, if_false, Bool.false_eq_true]
      · refine givesUpon_mono ih fun u w' hh' => ⟨hh'.1, hk w' hh'.1 u ?_⟩
        rw [← Act.put_comm a v u h2]; exact hh'.2
      · refine ⟨ih.1, hk w (Below.refl _ _) undef ?_⟩
        rw [← Act.put_comm a v undef h2]; exact ih.2
    rcases ht with rfl | rfl
    · simp only [List.cons_append, wpL] at h
      split at h
      · rename_i hw
        obtain ⟨v, hv, hrest⟩ := h
        refine key v (fun w' hbw u hr => ?_) hrest
        simp only [wpL]
        rw [wanted_put op a oj.dst u h3, if_pos hw, execOp_put op hsp a oj.dst u h3]
        exact ⟨v, fun p => hv ⟨p.world, hbw.trans (p.h.mono hbw.size)⟩, hr⟩
      · rename_i hw
        refine key undef (fun w' hbw u hr => ?_) h
        simp only [wpL]
        rw [wanted_put op a oj.dst u h3, if_neg hw]
        exact hr
    · simp only [List.cons_append, wpL] at h
      split at h
      · rename_i hw
        obtain ⟨v, hv, hrest⟩ := h
        refine key v (fun w' hbw u hr => ?_) hrest
        simp only [wpL]
        rw [wanted_put op a oj.dst u h3, if_pos hw, execOp_put op hsp a oj.dst u h3]
        exact ⟨v, hv, hr⟩
      · rename_i hw
        refine key undef (fun w' hbw u hr => ?_) h
        simp only [wpL]
        rw [wanted_put op a oj.dst u h3, if_neg hw]
        exact hr

def flPtr (b : Nat) : Value := .pointer (some ⟨b, 0, none⟩)
def realAct (fo : Oper) (st : Option Nat) (a : Act) : Act := match st with
  | none => a
  | some b => a.put fo.dst (flPtr b)

theorem wpL_toD {Q : Act → World → Prop} {fo : Oper} {pb : List (Oper × Tag)} {b : Nat} : ∀ (l : List (Oper × Tag)) (a : Act) (w : World), (∀ x ∈ l, x.2 = .p ∧ fo.apart ops x.1 = true ∧ ∀ cs b, x.1.op ≠ .select cs b) →
    wpL P ops z (fun b a w => wpD P ops Q pb (a.put fo.dst (flPtr b)) w) l (some b) a w → wpD P ops Q (l ++ pb) (a.put fo.dst (flPtr b)) w
  | [], a, w, _, h => h b w (.inl ⟨rfl, rfl⟩)
  | (o, t) :: rest, a, w, hp, h => by
    obtain ⟨ht, hap, hsp⟩ := hp (o, t) (by simp)
    simp only at ht hap hsp
    subst ht
    obtain ⟨p1, p2, p3⟩ := Oper.apart_spec hap
    have hp' : ∀ x ∈ rest, x.2 = .p ∧ fo.apart ops x.1 = true ∧ ∀ cs b, x.1.op ≠ .select cs b := fun x hx => hp x (by simp [hx])
    simp only [List.cons_append, wpD]
    simp only [wpL] at h
    rw [wanted_put o a fo.dst (flPtr b) p1, execOp_put o hsp a fo.dst (flPtr b) p1]
    split at h <;> rename_i hw <;> simp only [hw, if_true, if_false, Bool.false_eq_true]
    · obtain ⟨v, h1, h2⟩ := h
      refine ⟨v, h1, ?_⟩
      rw [Act.put_comm a (flPtr b) v p2]
      exact wpL_toD rest _ _ hp' h2
    · rw [Act.put_comm a (flPtr b) undef p2]
      exact wpL_toD rest _ _ hp' h

theorem rem_set {ord : List (Nat × Tag)} {listed : Array Bool} {i : Nat} (h : ∀ y ∈ ord, y.1 ≠ i) : rem ord (listed.setIfInBounds i true) = rem ord listed := by
  unfold rem
  apply List.filter_congr
  intro y hy
  rw [getD_set_ne true (fun e => h y hy e.symm)]

theorem fl_sound {Q : Exit → Act → World → Prop} (fi : Nat) (fo : Oper) (A B : List (Nat × Tag)) (hsel : Region.noSelect ops = true) (hcov : ∀ i, i < ops.size → ∃ x ∈ (fi, Tag.p) :: (A ++ B), x.1 = i)
    (hpw : ((fi, Tag.p) :: (A ++ B)).Pairwise (Rel2 ops)) (hsome : ∀ y ∈ (fi, Tag.p) :: (A ++ B), (ops[y.1]?).isSome = true) (htop : ∀ pre y post, (fi, Tag.p) :: (A ++ B) = pre ++ y :: post → ∀ d ∈ depsOf ops y.1, ∃ x ∈ pre, x.1 = d)
    (hfo : ops[fi]? = some fo) (hap : ∀ y ∈ A, apartB ops fi y.1 = true) (hA : ∀ y ∈ A, y.2 ≠ .b) (hanc : ∀ y ∈ B, Anc ops y.1 fi ∧ ∀ x ∈ A, x.2 ≠ .p → Anc ops y.1 x.1)
    (hrun : ∀ (a : Act) (w : World), Region.wanted fo (yielded ops a.tmps) = true ∧ (execOp a.eval fo).run P w = .ok (.value (flPtr w.heap.size)) (w.alloc z)) :
    ∀ (m : Nat) (listed : Array Bool) (st : Option Nat) (a : Act) (w : World), (rem A listed).length + (if listed.getD fi true then 0 else 1) = m → (∀ y ∈ B, listed.getD y.1 true = false) → Ideal ops listed → st.isSome = listed.getD fi true →
      wpL P ops z (fun b a w => wpD P ops (Q .normal) (pick ops B) (a.put fo.dst (flPtr b)) w) (pick ops (rem A listed)) st a w → wpAny P .any ops Q (B.length + m) listed (realAct fo st a) w := by
  have hlt : ∀ y ∈ (fi, Tag.p) :: (A ++ B), y.1 < ops.size := fun y hy => by
    have := hsome y hy
    rw [Option.isSome_iff_exists] at this
    obtain ⟨o, ho⟩ := this
    exact (Array.getElem?_eq_some_iff.1 ho).1
  obtain ⟨hpf, hpAB⟩ := List.pairwise_cons.1 hpw
  obtain ⟨hpA, hpB, hpX⟩ := List.pairwise_append.1 hpAB
  intro m
  have hdone : ∀ (m : Nat) (listed : Array Bool) (st : Option Nat) (a : Act) (w : World), (rem A listed).length + (if listed.getD fi true then 0 else 1) = m → (∀ y ∈ B, listed.getD y.1 true = false) → Ideal ops listed → st.isSome = listed.getD fi true →
      wpL P ops z (fun b a w => wpD P ops (Q .normal) (pick ops B) (a.put fo.dst (flPtr b)) w) (pick ops (rem A listed)) st a w → listed.getD fi true = true → (∀ y ∈ rem A listed, y.2 = .p) → wpAny P .any ops Q (B.length + m) listed (realAct fo st a) w := by
    intro m listed st a w hm hBl hid hst h hfl hallp
    rw [hfl] at hst hm
    obtain ⟨b, rfl⟩ := Option.isSome_iff_exists.1 hst
    have hD := wpL_toD (pick ops (rem A listed)) a w (by
      intro u hu
      obtain ⟨y, hy, hyz⟩ := List.mem_filterMap.1 hu
      have hyA := (List.mem_filter.1 hy).1
      obtain ⟨oy, hoy⟩ := Option.isSome_iff_exists.1 (hsome y (by simp [hyA]))
      rw [hoy] at hyz
      simp only [Option.map_some, Option.some.injEq] at hyz
      subst hyz
      refine ⟨hallp y hy, ?_, fun cs b => Region.noSelect_spec hsel y.1 oy cs b hoy⟩
      have := hap y hyA
      unfold apartB at this
      rw [hfo, hoy] at this
      exact this) h
    have hremB : rem ((fi, Tag.p) :: (A ++ B)) listed = rem A listed ++ B := by
      have e1 : rem ((fi, Tag.p) :: (A ++ B)) listed = rem A listed ++ rem B listed := by
        unfold rem
        rw [List.filter_cons, List.filter_append]
        simp [hfl]
      rw [e1]
      congr 1
      exact List.filter_eq_self.2 fun y hy => by rw [hBl y hy]; rfl
    exact ord_sound (P := P) (Q := Q) _ hsel hcov hpw hsome htop (B.length + m) listed _ w (by rw [hremB, List.length_append]; simp at hm; omega) hid (by
      rw [hremB]
      unfold pick at hD ⊢
      rw [List.filterMap_append]; exact hD)
  induction m with
  | zero =>
    intro listed st a w hm hBl hid hst h
    have hnil : rem A listed = [] := List.eq_nil_of_length_eq_zero (by omega)
    have hfl : listed.getD fi true = true := by
      cases hf : listed.getD fi true
      · rw [hf] at hm; simp at hm
      · rfl
    exact hdone 0 listed st a w hm hBl hid hst h hfl (fun y hy => by rw [hnil] at hy; cases hy)
  | succ m ih =>
    intro listed st a w hm hBl hid hst h
    by_cases hdn : listed.getD fi true = true ∧ ∀ y ∈ rem A listed, y.2 = .p
    · exact hdone (m + 1) listed st a w hm hBl hid hst h hdn.1 hdn.2
    refine ⟨fun h0 => ?_, fun j hj => ?_⟩
    · exfalso
      obtain ⟨y, rest, hrem⟩ : ∃ y rest, rem ((fi, Tag.p) :: (A ++ B)) listed = y :: rest := by
        cases hr : rem ((fi, Tag.p) :: (A ++ B)) listed with
        | nil =>
          exfalso
          have e : ∀ y ∈ (fi, Tag.p) :: (A ++ B), listed.getD y.1 true = true := fun y hy => by
            cases hv : listed.getD y.1 true
            · have : y ∈ rem ((fi, Tag.p) :: (A ++ B)) listed := List.mem_filter.2 ⟨hy, by rw [hv]; rfl⟩
              rw [hr] at this; cases this
            · rfl
          have e1 := e (fi, .p) (by simp)
          have e2 : rem A listed = [] := List.filter_eq_nil_iff.2 fun y hy => by rw [e y (by simp [hy])]; simp
          simp only at e1
          rw [e1, e2] at hm
          simp at hm
        | cons y rest => exact ⟨y, rest, rfl⟩
      obtain ⟨pre, post, hord, hpre⟩ := List.filter_eq_cons_iff.1 hrem
      have hy : y ∈ (fi, Tag.p) :: (A ++ B) := by rw [hord]; simp
      obtain ⟨o, ho⟩ := Option.isSome_iff_exists.1 (hsome y hy)
      have hun : listed.getD y.1 true = false := by
        have : y ∈ rem ((fi, Tag.p) :: (A ++ B)) listed := by rw [hrem]; simp
        simpa using (List.mem_filter.1 this).2
      have : y.1 ∈ Region.ready .any ops listed := ready_of ho hun fun d hd => by
        obtain ⟨x, hx, rfl⟩ := htop pre y post hord d hd
        have h1 := hpre.1 x hx
        have hxl : x.1 < listed.size := by rw [hid.size]; exact hlt x (by rw [hord]; simp [hx])
        rw [← getD_tf hxl]
        simpa using h1
      rw [h0] at this
      cases this
    · obtain ⟨h1, h2, h3⟩ := ready_deps hj
      have hset : ∀ i, (∀ d ∈ depsOf ops i, listed.getD d false = true) → Ideal ops (listed.setIfInBounds i true) := fun i h3 => by
        refine ⟨by simp [hid.size], fun y hy d hd => ?_⟩
        by_cases hxy : i = y
        · subst hxy; exact getD_set_true (h3 d hd)
        · rw [getD_set_ne false hxy] at hy
          exact getD_set_true (hid.closed y hy d hd)
      obtain ⟨x, hx, rfl⟩ := hcov j h1
      rcases List.mem_cons.1 hx with rfl | hx'
      · -- the block is laid
        have hn : st = none := by
          simp only at h2
          rw [h2] at hst
          cases st
          · rfl
          · cases hst
        subst hn
        refine wpOp_of_step hfo ?_
        unfold opStep
        obtain ⟨hw, hr⟩ := hrun (realAct fo none a) w
        rw [if_pos hw, hr]
        have hne : ∀ y ∈ A, y.1 ≠ fi := fun y hy e => (hpf y (by simp [hy])).ne e.symm
        have hneB : ∀ y ∈ B, fi ≠ y.1 := fun y hy e => (hpf y (by simp [hy])).ne e
        have hl : fi < listed.size := by rw [hid.size]; exact h1
        have := ih (listed.setIfInBounds fi true) (some w.heap.size) a (w.alloc z) (by
            rw [rem_set hne]
            simp only at h2
            rw [h2] at hm
            simp [hl]
            simpa using hm) (fun y hy => by rw [getD_set_ne true (hneB y hy)]; exact hBl y hy) (hset fi h3) (by simp [hl]) (by rw [rem_set hne]; exact wpL_alloc _ _ _ h)
        exact this
      · rcases List.mem_append.1 hx' with hxA | hxB
        · have hxr : x ∈ rem A listed := List.mem_filter.2 ⟨hxA, by simpa using h2⟩
          obtain ⟨pre, post, hsplit⟩ := List.append_of_mem hxr
          have hpwr : (rem A listed).Pairwise (Rel2 ops) := hpA.filter _
          rw [hsplit, List.pairwise_append] at hpwr
          obtain ⟨_, hpc, hcross⟩ := hpwr
          obtain ⟨oj, hoj⟩ := Option.isSome_iff_exists.1 (hsome x hx)
          have hpre : ∀ y ∈ pre, Rel2 ops y x ∧ listed.getD y.1 false = false ∧ y ∈ A := fun y hy => by
            have hyr : y ∈ rem A listed := by rw [hsplit]; simp [hy]
            obtain ⟨hyo, hyu⟩ := List.mem_filter.1 hyr
            have hyl : y.1 < listed.size := by rw [hid.size]; exact hlt y (by simp [hyo])
            exact ⟨hcross y hy x (by simp), by rw [← getD_tf hyl]; simpa using hyu, hyo⟩
          have hno : ∀ y ∈ pre, ¬ Anc ops x.1 y.1 := fun y hy ha => by
            have := hid.anc ha h3
            rw [(hpre y hy).2.1] at this
            cases this
          have hsj : ∀ cs b, oj.op ≠ .select cs b := fun cs b => Region.noSelect_spec hsel x.1 oj cs b hoj
          have hstep := exchL (P := P) (ops := ops) (z := z) (F := fun b a w => wpD P ops (Q .normal) (pick ops B) (a.put fo.dst (flPtr b)) w) (oj := oj) (tj := x.2) (post := pick ops post) hsj st (pick ops pre) a w
            (by
              intro u hu
              obtain ⟨y, hy, hyz⟩ := List.mem_filterMap.1 hu
              obtain ⟨oy, hoy⟩ := Option.isSome_iff_exists.1 (hsome y (by simp [(hpre y hy).2.2]))
              rw [hoy] at hyz
              simp only [Option.map_some, Option.some.injEq] at hyz
              subst hyz
              refine ⟨?_, ?_, fun cs b => Region.noSelect_spec hsel y.1 oy cs b hoy⟩
              · cases hq : y.2 with
                | q => exact Or.inl rfl
                | p => exact Or.inr rfl
                | g => exact absurd ((hpre y hy).1.anc (by rw [hq]; rfl)) (hno y hy)
                | b => exact absurd ((hpre y hy).1.anc (by rw [hq]; rfl)) (hno y hy)
              · rcases (hpre y hy).1.apart with hd | hd
                · exact absurd (.one hd) (hno y hy)
                · unfold apartB at hd
                  rw [hoy, hoj] at hd
                  exact hd)
            (by
              have e : pick ops (rem A listed) = pick ops pre ++ (oj, x.2) :: pick ops post := by
                rw [hsplit]; unfold pick; simp [List.filterMap_append, hoj]
              rw [← e]; exact h)
          have hfx : fi ≠ x.1 := fun e => (hpf x hx').ne e
          have hrem' : rem A (listed.setIfInBounds x.1 true) = pre ++ post := by
            have hx1 : x.1 < listed.size := by rw [hid.size]; exact h1
            have e1 : rem A (listed.setIfInBounds x.1 true) = (rem A listed).filter fun y => y.1 != x.1 := by
              unfold rem
              rw [List.filter_filter]
              apply List.filter_congr
              intro y hy
              by_cases hyx : x.1 = y.1
              · rw [← hyx]; simp [hx1]
              · have hne : (y.1 != x.1) = true := by simpa using fun h => hyx h.symm
                rw [getD_set_ne true hyx, hne]; simp
            rw [e1, hsplit, List.filter_append, List.filter_cons]
            have hp : pre.filter (fun y => y.1 != x.1) = pre := List.filter_eq_self.2 fun y hy => by simpa using (hpre y hy).1.ne
            have hq : post.filter (fun y => y.1 != x.1) = post := List.filter_eq_self.2 fun y hy => by
              have := (List.pairwise_cons.1 hpc).1 y hy
              simpa using fun e => this.ne e.symm
            rw [hp, hq]; simp
          have hlen : (pre ++ post).length + 1 = (rem A listed).length := by rw [hsplit]; simp; omega
          have e2 : ∀ v w', wpL P ops z (fun b a w => wpD P ops (Q .normal) (pick ops B) (a.put fo.dst (flPtr b)) w) (pick ops pre ++ pick ops post) st (a.put oj.dst v) w' →
              wpAny P .any ops Q (B.length + m) (listed.setIfInBounds x.1 true) (realAct fo st (a.put oj.dst v)) w' := fun v w' hh =>
            ih _ st _ _ (by rw [hrem', getD_set_ne true (fun e => hfx e.symm)]; omega) (fun y hy => by rw [getD_set_ne true (hpX x hxA y hy).ne]; exact hBl y hy) (hset x.1 h3) (by rw [getD_set_ne true (fun e => hfx e.symm)]; exact hst)
              (by rw [hrem']; unfold pick at hh ⊢; rw [List.filterMap_append]; exact hh)
          have hapx := hap x hxA
          unfold apartB at hapx
          rw [hfo, hoj] at hapx
          obtain ⟨p1, p2, p3⟩ := Oper.apart_spec hapx
          refine wpOp_of_step hoj ?_
          cases st with
          | none =>
            show opStep P ops oj (fun v w' => wpAny P .any ops Q (B.length + m) (listed.setIfInBounds x.1 true) (a.put oj.dst v) w') a w
            unfold opStep at hstep ⊢
            split at hstep <;> rename_i hw <;> simp only [hw, if_true, if_false, Bool.false_eq_true]
            · exact givesUpon_mono hstep fun v w' hh => e2 v w' hh.2
            · exact e2 _ _ hstep.2
          | some b =>
            show opStep P ops oj (fun v w' => wpAny P .any ops Q (B.length + m) (listed.setIfInBounds x.1 true) ((a.put fo.dst (flPtr b)).put oj.dst v) w') (a.put fo.dst (flPtr b)) w
            unfold opStep at hstep ⊢
            rw [wanted_put oj a fo.dst (flPtr b) p1, execOp_put oj hsj a fo.dst (flPtr b) p1]
            split at hstep <;> rename_i hw <;> simp only [hw, if_true, if_false, Bool.false_eq_true]
            · exact givesUpon_mono hstep fun v w' hh => by rw [Act.put_comm a (flPtr b) v p2]; exact e2 v w' hh.2
            · rw [Act.put_comm a (flPtr b) undef p2]; exact e2 _ _ hstep.2
        · exfalso
          obtain ⟨ha1, ha2⟩ := hanc x hxB
          have hfl := hid.anc ha1 h3
          have hf1 : listed.getD fi true = true := by
            rw [getD_tf (by rw [hid.size]; exact hlt (fi, .p) (by simp))]; exact hfl
          refine hdn ⟨hf1, fun y hy => ?_⟩
          obtain ⟨hyA, hyl⟩ := List.mem_filter.1 hy
          cases hq : y.2 with
          | p => rfl
          | _ =>
            have := hid.anc (ha2 y hyA (by rw [hq]; decide)) h3
            rw [getD_tf (by rw [hid.size]; exact hlt y (by simp [hyA])), this] at hyl
            cases hyl

def toQ (l : List (Nat × Tag)) (t : Tag) : List (Nat × Tag) := l.map fun x => (x.1, if x.2 = .p then .p else t)
def toB (l : List (Nat × Tag)) : List (Nat × Tag) := l.map fun x => (x.1, .b)
/-- **The rule.** -/
theorem wp_region_fl {id : Nat} {Q : Exit → Act → World → Prop} {a : Act} {w : World} {l : List Oper} (fi : Nat) (A B : List (Nat × Tag)) (fo : Oper) (z : Obj) (hm : P.follows .mixedOrders = true)
    (hB : ordB l.toArray ((fi, .p) :: (A ++ B)) = true) (hB2 : ordB l.toArray ((fi, .q) :: (toQ A .q ++ toB B)) = true) (hA : (A.all fun x => x.2 != .b && apartB l.toArray fi x.1) = true) (hfo : l.toArray[fi]? = some fo)
    (hrun : ∀ (a : Act) (w : World), Region.wanted fo (yielded l.toArray a.tmps) = true ∧ (execOp a.eval fo).run P w = .ok (.value (flPtr w.heap.size)) (w.alloc z))
    (h : wpL P l.toArray z (fun b a w => wpD P l.toArray (Q .normal) (pick l.toArray B) (a.put fo.dst (flPtr b)) w) (pick l.toArray A) none a w.drew) : (Code.region id l.toArray true).wp P Q a w := by
  have hanc : ∀ y ∈ B, Anc l.toArray y.1 fi ∧ ∀ x ∈ A, x.2 ≠ .p → Anc l.toArray y.1 x.1 := by
    simp only [ordB, Bool.and_eq_true, beq_iff_eq] at hB2
    obtain ⟨hpw, _, _, _⟩ := ordFrom_spec _ [] hB2.2 (fun _ h => by cases h)
    obtain ⟨hpf, hpAB⟩ := List.pairwise_cons.1 hpw
    obtain ⟨_, _, hpX⟩ := List.pairwise_append.1 hpAB
    intro y hy
    have hyB : (y.1, Tag.b) ∈ toB B := List.mem_map.2 ⟨y, hy, rfl⟩
    exact ⟨(hpf (y.1, .b) (by simp [hyB])).anc rfl, fun x hx hxp => (hpX (x.1, .q) (List.mem_map.2 ⟨x, hx, by rw [if_neg hxp]⟩) (y.1, .b) hyB).anc rfl⟩
  simp only [ordB, Bool.and_eq_true, beq_iff_eq] at hB
  obtain ⟨⟨⟨hsel, hlen⟩, hcov⟩, hfrom⟩ := hB
  obtain ⟨hpw, _, hsome, htop⟩ := ordFrom_spec _ [] hfrom (fun _ h => by cases h)
  refine wp_region_any hm ?_
  have hun : ∀ y ∈ (fi, Tag.p) :: (A ++ B), (Array.replicate l.toArray.size false).getD y.1 true = false := fun y hy => by
    obtain ⟨o, ho⟩ := Option.isSome_iff_exists.1 (hsome y hy)
    have := (Array.getElem?_eq_some_iff.1 ho).1
    simp at this
    simp [this]
  have hremA : rem A (Array.replicate l.toArray.size false) = A := List.filter_eq_self.2 fun y hy => by rw [hun y (by simp [hy])]; rfl
  have hf0 := hun (fi, .p) (by simp)
  simp only at hf0
  have hs := fl_sound (P := P) (Q := Q) (z := z) fi fo A B hsel (fun i hi => by
    have := List.all_eq_true.1 hcov i (List.mem_range.2 hi)
    obtain ⟨x, hx, hxi⟩ := List.any_eq_true.1 this
    exact ⟨x, hx, by simpa using hxi⟩) hpw hsome (fun pre y post he d hd => by
      rcases htop pre y post he d hd with ⟨x, hx, _⟩ | hx
      · cases hx
      · exact hx) hfo (fun y hy => by have := List.all_eq_true.1 hA y hy; simp only [Bool.and_eq_true] at this; exact this.2) (fun y hy => by have := List.all_eq_true.1 hA y hy; simp only [Bool.and_eq_true, bne_iff_ne] at this; exact this.1) hanc hrun
    (A.length + 1) (Array.replicate l.toArray.size false) none a w.drew (by rw [hremA, hf0]; simp) (fun y hy => hun y (by simp [hy]))
      ⟨by simp, fun y hy => by
        rcases Nat.lt_or_ge y l.toArray.size with h | h
        · simp at h; simp [h] at hy
        · simp at h; simp [h] at hy⟩ (by rw [hf0]; rfl) (by rw [hremA]; exact h)
  have hn : B.length + (A.length + 1) = l.toArray.size := by
    rw [← hlen]; simp; omega
  rw [hn] at hs
  exact hs
end
end Go.Proofs.YtglcpphfmmnmkaaGreat
