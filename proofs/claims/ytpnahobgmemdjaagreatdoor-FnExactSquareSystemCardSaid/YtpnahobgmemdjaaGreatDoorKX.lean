import Derived.Test.YtpnahobgmemdjaaGreatDoorKB
import Derived.Laws.OwnMore
set_option linter.unusedSimpArgs false
set_option linter.unusedVariables false
/- Walks: a system as a result: its glues, its tiles (four sides each, in a row of its own) and its seed; the harness compares it, marks it and looks at the marks. -/




namespace Go.Proofs.YtpnahobgmemdjaaGreatDoor
open Go.RowKit
attribute [local go_sem] BelowBy.cell BelowBy.cell_drew stillUpon givesUpon

structure Sy where
  gs : List Gl
  ts : List Ti
  xs : List Pl
  t : Int
/-- sizes -/
structure SmallSy (l : Sy) : Prop where
  g : l.gs.length ≤ 1000
  t : l.ts.length ≤ 1000
  x : l.xs.length ≤ 1000
  four : ∀ e ∈ l.ts, e.sides.length = 4
/-- a system of the call's own, below hi -/
structure OwnSy (W : World) (lo hi : Nat) (A B C : Option Addr) (ca cb cc : Nat) (us : List Value) (l : Sy) : Prop where
  g : W.ownsRow lo 69 2 (.slice A l.gs.length ca) l.gs.length (flatC encGl l.gs)
  t : OwnT W lo 73 2 (.slice B l.ts.length cb) us l.ts
  p : W.ownsRow lo 67 3 (.slice C l.xs.length cc) l.xs.length (plCells l.xs)
  four : ∀ e ∈ l.ts, e.sides.length = 4
  hg : ∀ g, (Value.slice A l.gs.length ca).ownBlock = some g → g < hi
  ht : ∀ g, (Value.slice B l.ts.length cb).ownBlock = some g → g < hi
  hu : ∀ (k : Nat) (u : Value) (g : Nat), us[k]? = some u → u.ownBlock = some g → g < hi
  hp : ∀ g, (Value.slice C l.xs.length cc).ownBlock = some g → g < hi
  hh : hi ≤ W.heap.size
theorem OwnT.mkd {w w' : World} {base lo hi : Nat} {T E : TypeId} {v : Value} {us : List Value} {ts : List Ti} (h : OwnT w base T E v us ts) (hm : Mk lo hi w w') (hl : hi ≤ base) : OwnT w' base T E v us ts :=
  ⟨h.len, ownsRow_mk h.outer hm hl, fun k u t hu ht => ownsRow_mk (h.inner k u t hu ht) hm hl, h.apart, h.off⟩
section
variable {W W' : World} {lo hi : Nat} {A B C : Option Addr} {ca cb cc : Nat} {us : List Value} {l : Sy}
theorem OwnSy.below (h : OwnSy W lo hi A B C ca cb cc us l) (hb : Below W.heap.size W W') : OwnSy W' lo hi A B C ca cb cc us l :=
  ⟨ownsRow_below h.g hb, h.t.below hb, ownsRow_below h.p hb, h.four, h.hg, h.ht, h.hu, h.hp, Nat.le_trans h.hh hb.size⟩
theorem OwnSy.rebase {lo' : Nat} (h : OwnSy W lo hi A B C ca cb cc us l) (hl : lo' ≤ lo) : OwnSy W lo' hi A B C ca cb cc us l :=
  ⟨ownsRow_lo h.g hl, h.t.rebase hl, ownsRow_lo h.p hl, h.four, h.hg, h.ht, h.hu, h.hp, h.hh⟩
theorem OwnSy.mkd {lo' hi' : Nat} (h : OwnSy W lo hi A B C ca cb cc us l) (hm : Mk lo' hi' W W') (hl : hi' ≤ lo) : OwnSy W' lo hi A B C ca cb cc us l :=
  ⟨ownsRow_mk h.g hm hl, h.t.mkd hm hl, ownsRow_mk h.p hm hl, h.four, h.hg, h.ht, h.hu, h.hp, Nat.le_trans h.hh hm.size⟩
theorem OwnSy.fl {g N i : Nat} {T : TypeId} {f : Nat → Value} (h : OwnSy W lo hi A B C ca cb cc us l) (hr : W.rowIs g T N f) (hne : 69 ≠ T ∧ 73 ≠ T ∧ 2 ≠ T ∧ 67 ≠ T) (u : Value) : OwnSy (W.setCell ⟨g, i, none⟩ u) lo hi A B C ca cb cc us l := by
  have hg : W.grownBy (W.setCell ⟨g, i, none⟩ u) (some g) := ⟨rfl, rfl, rfl, by simp, fun k hk hne => Below.heap_setCell _ _ _ _ (fun e => hne (by rw [e]))⟩
  refine ⟨ownsRow_setCell_other (a := ⟨g, i, none⟩) h.g (own_ne_row h.g hr hne.1) u, h.t.kept hg (fun g' e => ?_), ownsRow_setCell_other (a := ⟨g, i, none⟩) h.p (own_ne_row h.p hr hne.2.2.2) u, h.four, h.hg, h.ht, h.hu, h.hp, by simpa using h.hh⟩
  injection e with e
  subst e
  refine ⟨own_ne_row h.t.outer hr hne.2.1, fun k u' hu' => ?_⟩
  obtain ⟨t, _, hr'⟩ := h.t.get hu'
  exact own_ne_row hr' hr hne.2.2.1
theorem OwnSy.rd (h : OwnSy W lo hi A B C ca cb cc us l) : RdSl 2 RGl W A l.gs.length l.gs ∧ RdSl 2 RTi W B l.ts.length l.ts ∧ RdSl 3 RPl W C l.xs.length l.xs := by
  refine ⟨?_, ?_, rdPl h.p rfl⟩
  · obtain ⟨A', c', e, h1⟩ := rdGl_of_flat h.g
    injection e with e1 e2 e3
    rw [e1]; exact h1
  · obtain ⟨A', c', e, h1⟩ := h.t.rd
    injection e with e1 e2 e3
    rw [e1]; exact h1
theorem OwnSy.empty (W : World) {n : Nat} {t : Int} (h : n ≤ W.heap.size) : OwnSy W n W.heap.size none none none 0 0 0 [] ⟨[], [], [], t⟩ :=
  ⟨World.ownsRow_nil _ _ _ _, OwnT.nil _ _ _ _, World.ownsRow_nil _ _ _ _, (fun e he => by cases he), (fun g e => by cases e), (fun g e => by cases e), (fun k u g h => by simp at h), (fun g e => by cases e), Nat.le_refl _⟩
end
/-- a system and a code -/
def SyRes (w : World) (r : Sy × Int) (e : Ending) (w' : World) : Prop :=
  ∃ A B C ca cb cc us, e = .returned (.tuple #[.agg #[.slice A r.1.gs.length ca, .slice B r.1.ts.length cb, .slice C r.1.xs.length cc, .int .i64 r.1.t], .int .i64 r.2]) ∧ OwnSy w' w.heap.size w'.heap.size A B C ca cb cc us r.1 ∧ Below w.heap.size w w'
theorem eqSystem_r (A B C A2 B2 C2 : Option Addr) (ca cb cc ca2 cb2 cc2 : Nat) (l : Sy) (w : World) (h1 : RdSl 2 RGl w A l.gs.length l.gs ∧ RdSl 2 RTi w B l.ts.length l.ts ∧ RdSl 3 RPl w C l.xs.length l.xs) (h2 : RdSl 2 RGl w A2 l.gs.length l.gs ∧ RdSl 2 RTi w B2 l.ts.length l.ts ∧ RdSl 3 RPl w C2 l.xs.length l.xs) (hs : SmallSy l) :
    Calls Tryz.prog 6 #[.agg #[.slice A l.gs.length ca, .slice B l.ts.length cb, .slice C l.xs.length cc, .int .i64 l.t], .agg #[.slice A2 l.gs.length ca2, .slice B2 l.ts.length cb2, .slice C2 l.xs.length cc2, .int .i64 l.t]] w fun e w' => e = .returned (.bool true) ∧ Below w.heap.size w w' :=
  eqSystem_same A A2 B B2 C C2 l.gs.length ca ca2 l.ts.length cb cb2 l.xs.length cc cc2 l.gs l.ts l.xs l.t w h1.1 h2.1 h1.2.1 h2.2.1 h1.2.2 h2.2.2 (by have := hs.g; omega) (by have := hs.t; omega) (fun e he => by rw [hs.four e he]; decide) (by have := hs.x; omega)
/-- the glues bear their marks -/
def MarkedG (lo hi : Nat) (w : World) (A : Option Addr) (n k : Nat) : Prop :=
  0 < n → ∃ g N f, A = some ⟨g, 0, none⟩ ∧ lo ≤ g ∧ g < hi ∧ w.rowIs g 69 N f ∧ n * 2 ≤ N ∧ ∀ j, j < n → f (j * 2) = .string (markS (k + 2 * j)) ∧ f (j * 2 + 1) = .int .i64 ((k + 2 * j + 1 : Nat) : Int)
theorem MarkedG.keep {lo hi k : Nat} {w w' : World} {A : Option Addr} {n : Nat} (h : MarkedG lo hi w A n k) (hk : ∀ k, lo ≤ k → k < hi → w'.heap[k]? = w.heap[k]?) : MarkedG lo hi w' A n k := fun hn => by
  obtain ⟨g, N, f, h1, h2, h3, h4, h5, h6⟩ := h hn
  exact ⟨g, N, f, h1, h2, h3, h4.of_block (hk g h2 h3), h5, h6⟩
theorem MarkedG.below {lo hi k : Nat} {w w' : World} {A : Option Addr} {n : Nat} (h : MarkedG lo hi w A n k) (hb : Below w.heap.size w w') (hh : hi ≤ w.heap.size) : MarkedG lo hi w' A n k := h.keep fun k _ h2 => hb.block k (by omega)
/-- what turned one block turned no block of another type -/
theorem mk_other {w w' : World} {g b N M : Nat} {T U : TypeId} {f f' : Nat → Value} (hm : Mk g (g + 1) w w') (hg : w.rowIs g T N f) (hb : w.rowIs b U M f') (hne : T ≠ U) : w'.heap[b]? = w.heap[b]? := by
  have h0 := rowIs_ne hg hb hne
  rcases Nat.lt_or_ge b g with hlt | hge
  · exact hm.below.block b hlt
  · exact hm.keep b (by omega) hb.lt
/-- rows of other types than these stay as they are -/
def Far (Ts : List TypeId) (w w' : World) : Prop := ∀ (b : Nat) (T : TypeId) (M : Nat) (f : Nat → Value), w.rowIs b T M f → T ∉ Ts → w'.heap[b]? = w.heap[b]?
theorem Far.refl (Ts : List TypeId) (w : World) : Far Ts w w := fun _ _ _ _ _ _ => rfl
theorem Far.trans {Ts : List TypeId} {a b c : World} (h : Far Ts a b) (k : Far Ts b c) : Far Ts a c := fun i T M f hr hT => (k i T M f (hr.of_block (h i T M f hr hT)) hT).trans (h i T M f hr hT)
theorem Far.of_below {Ts : List TypeId} {a b : World} (h : Below a.heap.size a b) : Far Ts a b := fun i T M f hr _ => h.block i hr.lt
theorem Far.weaken {Ts Us : List TypeId} {a b : World} (h : Far Ts a b) (hs : ∀ T ∈ Ts, T ∈ Us) : Far Us a b := fun i T M f hr hT => h i T M f hr (fun e => hT (hs T e))
theorem Far.of_mk {Ts : List TypeId} {a b : World} {g N : Nat} {T : TypeId} {f : Nat → Value} (hm : Mk g (g + 1) a b) (hg : a.rowIs g T N f) (hT : T ∈ Ts) : Far Ts a b := fun i U M f' hr hU => mk_other hm hg hr (fun e => hU (e ▸ hT))
theorem Far.set {Ts : List TypeId} {a : World} {g N i : Nat} {T : TypeId} {f : Nat → Value} (hg : a.rowIs g T N f) (hT : T ∈ Ts) (u : Value) : Far Ts a (a.setCell ⟨g, i, none⟩ u) := fun j U M f' hr hU => Below.heap_setCell _ _ _ _ (rowIs_ne hr hg (fun e => hU (e ▸ hT)))
theorem MarkedG.ofFar {Ts : List TypeId} {lo hi k : Nat} {w w' : World} {A : Option Addr} {n : Nat} (h : MarkedG lo hi w A n k) (hf : Far Ts w w') (hT : 69 ∉ Ts) : MarkedG lo hi w' A n k := fun hn => by
  obtain ⟨b, N, f, h1, h2, h3, h4, h5, h6⟩ := h hn
  exact ⟨b, N, f, h1, h2, h3, h4.of_block (hf b _ N f h4 hT), h5, h6⟩
theorem MkRow.ofFar {Ts : List TypeId} {T : TypeId} {size lo hi : Nat} {w w' : World} {A : Option Addr} {n : Nat} (h : MkRow T size lo hi w A n) (hf : Far Ts w w') (hT : T ∉ Ts) : MkRow T size lo hi w' A n := fun hn => by
  obtain ⟨b, N, f, h1, h2, h3, h4, h5⟩ := h hn
  exact ⟨b, N, f, h1, h2, h3, h4.of_block (hf b _ N f h4 hT), h5⟩
set_option maxRecDepth 100000 in
set_option maxHeartbeats 2000000 in
theorem markGlueS_zero (A : Option Addr) (c k : Nat) (w : World) :
    Calls Tryz.prog 42 #[.slice A 0 c, .int .i64 (k : Int)] w fun e w' => e = .returned (.int .i64 (k : Int)) ∧ w = w' := by
  go_enter Tryz.func42, Tryz.ntmps42
  go_wp2
  refine wp_loop_rounds 1 ?_
  rw [rounds_succ]
  go_wp2
  go_ret
  exact ⟨rfl, rfl⟩
set_option maxRecDepth 100000 in
set_option maxHeartbeats 2000000 in
theorem markGlueS_core (g N n c k : Nat) (f0 : Nat → Value) (w : World) (hrow0 : w.rowIs g 69 N f0) (hN : n * 2 ≤ N) (hk : k + 2 * n ≤ 4611686018427387904) :
    Calls Tryz.prog 42 #[.slice (some ⟨g, 0, none⟩) n c, .int .i64 (k : Int)] w fun e w' => e = .returned (.int .i64 ((k + 2 * n : Nat) : Int)) ∧ Mk g (g + 1) w w' ∧ ∃ f, w'.rowIs g 69 N f ∧ ∀ j, j < n → f (j * 2) = .string (markS (k + 2 * j)) ∧ f (j * 2 + 1) = .int .i64 ((k + 2 * j + 1 : Nat) : Int) := by
  have hg1 : g ≤ g := Nat.le_refl _
  have hg2 : g < g + 1 := Nat.lt_succ_self _
  have hgl : g ≤ w.heap.size := Nat.le_of_lt hrow0.lt
  go_enter Tryz.func42, Tryz.ntmps42
  go_wp2
  go_loopg [5, 1] n (fun r x kk wr => ∃ (i : Nat) (f : Nat → Value), i + r = n ∧ x = .int .i64 (i : Int) ∧ kk = .int .i64 ((k + 2 * i : Nat) : Int) ∧ wr.rowIs g 69 N f ∧ (∀ j, j < i → f (j * 2) = .string (markS (k + 2 * j)) ∧ f (j * 2 + 1) = .int .i64 ((k + 2 * j + 1 : Nat) : Int)) ∧ Mk g (g + 1) w wr)
  case atStart => exact ⟨0, f0, by omega, rfl, rfl, hrow0, fun j hj => by omega, Mk.refl _ _ _⟩
  case round =>
    obtain ⟨i, f, hi', rfl, rfl, hrow, hcont, hm⟩ := hrel
    have hcontH := Lib.hid hcont
    have hmH := Lib.hid hm
    clear hcont hm
    by_cases hlt : i < n
    · obtain ⟨j0, hj⟩ : ∃ j0, j0 = k + 2 * i := ⟨_, rfl⟩
      have hki : (0 : Int) ≤ (j0 : Int) := by omega
      have hki2 : (j0 : Int) + 1 < 4611686018427387904 := by omega
      have hjH := Lib.hid hj
      rw [← hj]
      have hrow0H := Lib.hid hrow
      clear hj hrow hrow0
      go_wp2_with fail
      refine (markText_any j0 (by omega) _).mono ?_
      rintro e w1 ⟨rfl, hb1⟩
      have hrow := hrow0H.out.of_block (hb1.block g hrow0H.out.lt)
      have hc0 := hrow.cell (i := i * 2) (by omega)
      have hf0 := hrow.frozen (i * 2)
      have hc1 := hrow.cell (i := i * 2 + 1) (by omega)
      have hf1 := hrow.frozen (i * 2 + 1)
      have hb1H := Lib.hid hb1
      have hrowH := Lib.hid hrow
      clear hrow hb1
      go_wp2
      go_roundg (n - (i + 1))
      case measure => omega
      case rel => exact ⟨i + 1, _, by omega, by go_num, by (have := hjH.out; rw [show k + 2 * (i + 1) = j0 + 1 + 1 by omega]; go_num), ((hrowH.out.set (i * 2) _).set (i * 2 + 1) _), fun j hj => (by
        have hcont := hcontH.out
        have h0 := hjH.out
        rcases (show j < i ∨ j = i by omega) with hjj | hjj
        · rw [if_neg (by omega), if_neg (by omega), if_neg (by omega), if_neg (by omega)]; exact hcont j hjj
        · subst hjj
          rw [if_neg (by omega), if_pos (by omega), if_pos (by omega), ← h0]
          exact ⟨rfl, congrArg (Value.int IntKind.i64) (by omega)⟩), ((hmH.out.bl hb1H.out hgl).set (p := ⟨g, i * 2, none⟩) hg1 hg2 _).set (p := ⟨g, i * 2 + 1, none⟩) hg1 hg2 _⟩
    · obtain rfl : i = n := by omega
      go_wp2
      go_ret
      exact ⟨rfl, hmH.out, f, hrow, hcontH.out⟩
set_option maxRecDepth 100000 in
set_option maxHeartbeats 2000000 in
theorem heldGlueS_any (A : Option Addr) (n c k lo hi : Nat) (w : World) (h : MarkedG lo hi w A n k) (hh : hi ≤ w.heap.size) (hk : k + 2 * n ≤ 4611686018427387904) :
    Calls Tryz.prog 45 #[.slice A n c, .int .i64 (k : Int)] w fun e w' => e = .returned (.int .i64 ((k + 2 * n : Nat) : Int)) ∧ Below w.heap.size w w' := by
  
  have hH := Lib.hid h
  clear h
  go_enter Tryz.func45, Tryz.ntmps45
  go_wp2
  go_loopg [5, 1] n (fun r x kk wr => ∃ i : Nat, i + r = n ∧ x = .int .i64 (i : Int) ∧ kk = .int .i64 ((k + 2 * i : Nat) : Int) ∧ Below w.heap.size w wr)
  case atStart => exact ⟨0, by omega, rfl, rfl, bl_refl _⟩
  case round =>
    obtain ⟨i, hi', rfl, rfl, hbw⟩ := hrel
    by_cases hlt : i < n
    · obtain ⟨j0, hj⟩ : ∃ j0, j0 = k + 2 * i := ⟨_, rfl⟩
      have hki : (0 : Int) ≤ (j0 : Int) := by omega
      have hki2 : (j0 : Int) + 1 < 4611686018427387910 := by omega
      have hki3 : j0 ≤ 4611686018427387904 := by omega
      have hjH := Lib.hid hj
      rw [← hj]
      obtain ⟨g, N, f, rfl, hg1, hg2, hrow, hN, hcont⟩ := (hH.out.below hbw hh) (by omega)
      have hc0 := hrow.cell (i := i * 2) (by omega)
      have hc1 := hrow.cell (i := i * 2 + 1) (by omega)
      rw [(hcont i (by omega)).1, ← hj] at hc0
      rw [(hcont i (by omega)).2, ← hj] at hc1
      have hgw : g < wr.heap.size := hrow.lt
      clear hj hrow hcont
      go_wp2
      refine wp_region_ord [(0, .q), (1, .q), (2, .q), (3, .q), (4, .q), (5, .q), (6, .g), (7, .q)] (by kernel_rfl) (by kernel_rfl) ?_
      simp only [pick, List.filterMap_cons, List.filterMap_nil, List.getElem?_toArray, List.getElem?_cons_zero, List.getElem?_cons_succ, Option.map_some]
      repeat (first | ((with_reducible refine wpD_p (fun K hK => ?_)); go_simp; refine hK _ ?_; clear hK K) | ((with_reducible refine wpD_q (fun K hK => ?_)); go_simp; (first | refine hK _ ?_ | (go_bits; refine hK _ ?_) | (go_bits; go_simp; refine hK _ ?_)); clear hK K))
      with_reducible refine wpD_g (fun K hK => ?_)
      go_simp
      refine (markText_any j0 hki3 _).mono ?_
      rintro e w1 ⟨rfl, hb1⟩
      refine ⟨_, rfl, hb1, hK _ _ ?_⟩
      clear hK K
      repeat (first | ((with_reducible refine wpD_p (fun K hK => ?_)); go_simp; refine hK _ ?_; clear hK K) | ((with_reducible refine wpD_q (fun K hK => ?_)); go_simp; (first | refine hK _ ?_ | (go_bits; refine hK _ ?_) | (go_bits; go_simp; refine hK _ ?_)); clear hK K))
      with_reducible refine wpD_nil ?_
      have hc1' := (hb1.cell (p := ⟨g, i * 2 + 1, none⟩) hgw).trans hc1
      have hgw' := Nat.lt_of_lt_of_le hgw hb1.size
      have hb2 := Lib.hid (show Below w.heap.size w w1 by exact bel_)
      clear hc1 hc0 hb1
      go_wp2
      go_roundg (n - (i + 1))
      case measure => omega
      case rel => exact ⟨i + 1, by omega, by go_num, by (have := hjH.out; rw [show k + 2 * (i + 1) = j0 + 1 + 1 by omega]; go_num), hb2.out⟩
    · obtain rfl : i = n := by omega
      go_wp2
      go_ret
      exact ⟨rfl, hbw⟩
/-- tiles of the call's own with four sides each: the first i names and the first i' rows of sides bear their marks -/
structure TM (lo hi : Nat) (w : World) (A : Option Addr) (us : List Value) (k i i' : Nat) : Prop where
  outer : 0 < us.length → ∃ g N f, A = some ⟨g, 0, none⟩ ∧ lo ≤ g ∧ g < hi ∧ w.rowIs g 73 N f ∧ us.length * 2 ≤ N ∧ (∀ (j : Nat) (u : Value), us[j]? = some u → f (j * 2 + 1) = u) ∧ ∀ j, j < i → f (j * 2) = .string (markS (k + 5 * j))
  rows : ∀ (j : Nat) (u : Value), us[j]? = some u → ∃ b M f c, u = .slice (some ⟨b, 0, none⟩) 4 c ∧ lo ≤ b ∧ b < hi ∧ w.rowIs b 2 M f ∧ 4 * 1 ≤ M ∧ (j < i' → ∀ x, x < 4 * 1 → f x = .int .i64 ((k + 5 * j + 1 + x : Nat) : Int))
  apart : ∀ (j k : Nat) (u u' : Value) (g : Nat), us[j]? = some u → us[k]? = some u' → u.ownBlock = some g → u'.ownBlock = some g → j = k
section
variable {w w' : World} {lo hi : Nat} {A : Option Addr} {us : List Value} {k i i' : Nat}
theorem TM.keep (h : TM lo hi w A us k i i') (hk : ∀ k, lo ≤ k → k < hi → w'.heap[k]? = w.heap[k]?) : TM lo hi w' A us k i i' := by
  refine ⟨fun hp => ?_, fun j u hu => ?_, h.apart⟩
  · obtain ⟨g, N, f, h1, h2, h3, h4, h5⟩ := h.outer hp
    exact ⟨g, N, f, h1, h2, h3, h4.of_block (hk g h2 h3), h5⟩
  · obtain ⟨b, M, f, c, h1, h2, h3, h4, h5⟩ := h.rows j u hu
    exact ⟨b, M, f, c, h1, h2, h3, h4.of_block (hk b h2 h3), h5⟩
theorem TM.below (h : TM lo hi w A us k i i') (hb : Below w.heap.size w w') (hh : hi ≤ w.heap.size) : TM lo hi w' A us k i i' := h.keep fun k _ h2 => hb.block k (by omega)
theorem TM.ofFar {Ts : List TypeId} (h : TM lo hi w A us k i i') (hf : Far Ts w w') (hT : 73 ∉ Ts) (hI : 2 ∉ Ts) : TM lo hi w' A us k i i' := by
  refine ⟨fun hp => ?_, fun j u hu => ?_, h.apart⟩
  · obtain ⟨b, N, f, h1, h2, h3, h4, h5⟩ := h.outer hp
    exact ⟨b, N, f, h1, h2, h3, h4.of_block (hf b _ N f h4 hT), h5⟩
  · obtain ⟨b, M, f, c, h1, h2, h3, h4, h5⟩ := h.rows j u hu
    exact ⟨b, M, f, c, h1, h2, h3, h4.of_block (hf b _ M f h4 hI), h5⟩
theorem TM.name {g : Nat} (h : TM lo hi w A us k i i') (hA : A = some ⟨g, 0, none⟩) (hi' : i < us.length) : TM lo hi (w.setCell ⟨g, i * 2, none⟩ (.string (markS (k + 5 * i)))) A us k (i + 1) i' := by
  obtain ⟨b, N, f, h1, h2, h3, h4, h5, h6, h7⟩ := h.outer (by omega)
  obtain rfl : b = g := by
    rw [hA] at h1
    injection h1 with h1
    injection h1 with h1
    exact h1.symm
  refine ⟨fun hp => ⟨b, N, _, h1, h2, h3, h4.set (i * 2) _, h5, fun j u hu => ?_, fun j hj => ?_⟩, fun j u hu => ?_, h.apart⟩
  · rw [if_neg (by omega)]; exact h6 j u hu
  · rcases (show j < i ∨ j = i by omega) with hjj | rfl
    · rw [if_neg (by omega)]; exact h7 j hjj
    · rw [if_pos rfl]
  · obtain ⟨a, M, f', c, g1, g2, g3, g4, g5⟩ := h.rows j u hu
    exact ⟨a, M, f', c, g1, g2, g3, g4.of_block (Below.heap_setCell _ _ _ _ (rowIs_ne g4 h4 (fun e => tile_ne_int e.symm))), g5⟩
theorem TM.side {b M c : Nat} {f1 : Nat → Value} (h : TM lo hi w A us k i i') (hu : us[i']? = some (.slice (some ⟨b, 0, none⟩) 4 c)) (hm : Mk b (b + 1) w w') (hr : w'.rowIs b 2 M f1) (hM : 4 * 1 ≤ M) (hf : ∀ x, x < 4 * 1 → f1 x = .int .i64 ((k + 5 * i' + 1 + x : Nat) : Int)) : TM lo hi w' A us k i (i' + 1) := by
  obtain ⟨b', M0, f0, c0, e0, q1, q2, q3, q4, q5⟩ := h.rows i' _ hu
  injection e0 with e1 e2 e3
  injection e1 with e1
  injection e1 with e1
  subst e1
  refine ⟨fun hp => ?_, fun j u hj => ?_, h.apart⟩
  · obtain ⟨g, N, f, h1, h2, h3, h4, h5⟩ := h.outer hp
    exact ⟨g, N, f, h1, h2, h3, h4.of_block (mk_other hm q3 h4 (fun e => tile_ne_int e.symm)), h5⟩
  · by_cases e : j = i'
    · subst e
      rw [hu] at hj
      obtain rfl := Option.some.inj hj
      exact ⟨b, M, f1, c, rfl, q1, q2, hr, hM, fun _ => hf⟩
    · obtain ⟨a, M', f', c', rfl, g2, g3, g4, g5, g6⟩ := h.rows j u hj
      have hne : a ≠ b := fun e' => e (h.apart j i' _ _ a hj hu rfl (by rw [e']; rfl))
      have hk : w'.heap[a]? = w.heap[a]? := by
        rcases Nat.lt_or_ge a b with hlt | hge
        · exact hm.below.block a hlt
        · exact hm.keep a (by omega) g4.lt
      exact ⟨a, M', f', c', rfl, g2, g3, g4.of_block hk, g5, fun hj' => g6 (by omega)⟩
theorem TM.of {B C : Option Addr} {ca cb cc : Nat} {l : Sy} (h : OwnSy w lo hi A B C ca cb cc us l) (k : Nat) : TM lo hi w B us k 0 0 := by
  refine ⟨fun hp => ?_, fun j u hu => ?_, h.t.apart⟩
  · rcases h.t.outer.2 with ⟨_, h0⟩ | ⟨g, cap, cur, hv, hb, hh, hnc, hm, hs, ht⟩
    · omega
    · injection hv with h1 h2 h3
      refine ⟨g, cur.size, fun i => cur.getD i undef, h1, hb, h.ht g (by rw [h1]; rfl), ⟨cur, hh, rfl, fun i hi => by simp [hi]⟩, by rw [hs]; exact Nat.mul_le_mul_right _ hnc, fun j u hu => ?_, fun j hj => by omega⟩
      have hju := (List.getElem?_eq_some_iff.1 hu).1
      obtain ⟨t, ht', _⟩ := h.t.get hu
      have hz : ((l.ts.map Ti.name).zip us)[j]? = some (t.name, u) := by
        rw [List.getElem?_zip_eq_some]
        exact ⟨by rw [List.getElem?_map, ht']; rfl, hu⟩
      have hg := flatC_get encNU_len _ j _ hz 1 (by omega)
      rw [← ht, List.getElem?_take] at hg
      split at hg
      · have hlt : j * 2 + 1 < cur.size := by rw [hs]; have := Nat.mul_le_mul_right 2 hnc; omega
        simp only [Array.getD_eq_getD_getElem?]
        rw [← Array.getElem?_toList, hg]
        rfl
      · cases hg
  · obtain ⟨t, ht', hr⟩ := h.t.get hu
    have h4 := h.four t (List.mem_of_getElem? ht')
    rw [h4] at hr
    rcases hr.2 with ⟨_, h0⟩ | ⟨g, cap, cur, hv, hb, hh, hnc, hm, hs, ht⟩
    · omega
    · subst hv
      exact ⟨g, cur.size, fun i => cur.getD i undef, cap, rfl, hb, h.hu j _ g hu rfl, ⟨cur, hh, rfl, fun i hi => by simp [hi]⟩, by rw [hs]; exact Nat.mul_le_mul_right _ hnc, fun hj => by omega⟩
end
set_option maxRecDepth 100000 in
set_option maxHeartbeats 2000000 in
theorem markTileS_r (A : Option Addr) (n c k lo hi : Nat) (us : List Value) (w : World) (hn : us.length = n) (h : TM lo hi w A us k 0 0) (hh : hi ≤ w.heap.size) (hl : lo ≤ w.heap.size) (hk : k + 5 * n ≤ 4611686018427387904) :
    Calls Tryz.prog 43 #[.slice A n c, .int .i64 (k : Int)] w fun e w' => e = .returned (.int .i64 ((k + 5 * n : Nat) : Int)) ∧ Mk lo hi w w' ∧ TM lo hi w' A us k n n ∧ Far [73, 2] w w' := by
  have hnH := Lib.hid hn
  clear hn
  go_enter Tryz.func43, Tryz.ntmps43
  go_wp2
  go_loopg [5, 1] n (fun r x kk wr => ∃ i : Nat, i + r = n ∧ x = .int .i64 (i : Int) ∧ kk = .int .i64 ((k + 5 * i : Nat) : Int) ∧ Hid (TM lo hi wr A us k i i) ∧ Hid (Mk lo hi w wr) ∧ Hid (Far [73, 2] w wr))
  case atStart => exact ⟨0, by omega, rfl, rfl, Lib.hid h, Lib.hid (Mk.refl _ _ _), Lib.hid (Far.refl _ _)⟩
  case round =>
    obtain ⟨i, hi', rfl, rfl, hrH, hmH, hfH⟩ := hrel
    by_cases hlt : i < n
    · obtain ⟨j0, hj⟩ : ∃ j0, j0 = k + 5 * i := ⟨_, rfl⟩
      have hki : (0 : Int) ≤ (j0 : Int) := by omega
      have hki2 : (j0 : Int) + 5 < 4611686018427387910 := by omega
      have hjH := Lib.hid hj
      rw [← hj]
      have hhw : hi ≤ wr.heap.size := Nat.le_trans hh hmH.out.size
      obtain ⟨g, N, f, rfl, hg1, hg2, _⟩ := hrH.out.outer (by rw [hnH.out]; omega)
      clear hj
      go_wp2_with fail
      refine (markText_any j0 (by omega) _).mono ?_
      rintro e w1 ⟨rfl, hb1⟩
      have hr1 := hrH.out.below hb1 hhw
      have hr1H := Lib.hid hr1
      obtain ⟨g', N', f', hA, _, _, hrow, hN', hsd, _⟩ := hr1.outer (by rw [hnH.out]; omega)
      obtain rfl : g = g' := by simpa using hA
      obtain ⟨u, hu⟩ : ∃ u, us[i]? = some u := ⟨_, List.getElem?_eq_getElem (by rw [hnH.out]; exact hlt)⟩
      obtain ⟨b, M, fb, cu, rfl, hb1', hb2', _⟩ := hr1.rows i u hu
      have hN2 : n * 2 ≤ N' := by rw [← hnH.out]; exact hN'
      have hc0 := hrow.cell (i := i * 2) (by omega)
      have hf0 := hrow.frozen (i * 2)
      have hc1 := hrow.cell (i := i * 2 + 1) (by omega)
      rw [hsd i _ hu] at hc1
      have hf1 := hrow.frozen (i * 2 + 1)
      have hb1H := Lib.hid hb1
      have huH := Lib.hid hu
      have hzs := Lib.hid hb1.size
      have hf2 := Lib.hid ((hfH.out.trans (Far.of_below hb1)).trans (Far.set (i := i * 2) hrow (by simp) (Value.string (markS j0))))
      clear hrow hr1 hA hb1 hsd hu hN'
      go_wp2_with fail
      have hmA : Mk lo hi w (w1.setCell ⟨g, i * 2, none⟩ (Value.string (markS j0))) := ((hmH.out.bl hb1H.out hl).set (p := ⟨g, i * 2, none⟩) hg1 hg2 _)
      have hrA := hr1H.out.name rfl (by rw [hnH.out]; exact hlt)
      rw [← hjH.out] at hrA
      obtain ⟨b', M', fb', cu', e0, q1, q2, q3, q4, _⟩ := hrA.rows i _ huH.out
      injection e0 with e1 e2 e3
      injection e1 with e1
      injection e1 with e1
      subst e1
      refine (markInt64S_core b M' 4 cu (j0 + 1) fb' _ q3 q4 (by have := hjH.out; omega)).mono ?_
      rintro e w2 ⟨rfl, hm2, f2, hr2, hc2⟩
      have hT2H := Lib.hid (hrA.side huH.out hm2 hr2 q4 (fun x hx => by rw [hc2 x hx, hjH.out]))
      have hf3 := Lib.hid (hf2.out.trans (Far.of_mk hm2 q3 (by simp)))
      have hm2H := Lib.hid (hmA.trans (hm2.weaken q1 (by omega)))
      clear hm2 hr2 hc2 hmA hrA q3
      go_wp2
      go_roundg (n - (i + 1))
      case measure => omega
      case rel => exact ⟨i + 1, by omega, by go_num, by (have := hjH.out; rw [show k + 5 * (i + 1) = j0 + 1 + 4 by omega]; go_num), hT2H, hm2H, hf3⟩
    · obtain rfl : i = n := by omega
      go_wp2
      go_ret
      exact ⟨rfl, hmH.out, hrH.out, hfH.out⟩
set_option maxRecDepth 100000 in
set_option maxHeartbeats 2000000 in
theorem heldTileS_r (A : Option Addr) (n c k lo hi : Nat) (us : List Value) (w : World) (hn : us.length = n) (h : TM lo hi w A us k n n) (hh : hi ≤ w.heap.size) (hk : k + 5 * n ≤ 4611686018427387904) :
    Calls Tryz.prog 46 #[.slice A n c, .int .i64 (k : Int)] w fun e w' => e = .returned (.int .i64 ((k + 5 * n : Nat) : Int)) ∧ Below w.heap.size w w' := by
  
  have hnH := Lib.hid hn
  have hH := Lib.hid h
  clear hn h
  go_enter Tryz.func46, Tryz.ntmps46
  go_wp2
  go_loopg [5, 1] n (fun r x kk wr => ∃ i : Nat, i + r = n ∧ x = .int .i64 (i : Int) ∧ kk = .int .i64 ((k + 5 * i : Nat) : Int) ∧ Below w.heap.size w wr)
  case atStart => exact ⟨0, by omega, rfl, rfl, bl_refl _⟩
  case round =>
    obtain ⟨i, hi', rfl, rfl, hbw⟩ := hrel
    by_cases hlt : i < n
    · obtain ⟨j0, hj⟩ : ∃ j0, j0 = k + 5 * i := ⟨_, rfl⟩
      have hki : (0 : Int) ≤ (j0 : Int) := by omega
      have hki2 : (j0 : Int) + 5 < 4611686018427387910 := by omega
      have hki3 : j0 ≤ 4611686018427387904 := by omega
      have hjH := Lib.hid hj
      rw [← hj]
      have hhw : hi ≤ wr.heap.size := Nat.le_trans hh hbw.size
      have hr1 := hH.out.below hbw hh
      obtain ⟨g, N, f, rfl, hg1, hg2, hrow, hN, hsd, hnm⟩ := hr1.outer (by rw [hnH.out]; omega)
      obtain ⟨u, hu⟩ : ∃ u, us[i]? = some u := ⟨_, List.getElem?_eq_getElem (by rw [hnH.out]; exact hlt)⟩
      obtain ⟨b, M, fb, cu, rfl, q1, q2, q3, q4, q5⟩ := hr1.rows i u hu
      have hN2 : n * 2 ≤ N := by rw [← hnH.out]; exact hN
      have hc0 := hrow.cell (i := i * 2) (by omega)
      have hc1 := hrow.cell (i := i * 2 + 1) (by omega)
      rw [hnm i hlt, ← hj] at hc0
      rw [hsd i _ hu] at hc1
      have hMk := Lib.hid (show Marked 2 1 lo hi wr (some ⟨b, 0, none⟩) 4 (j0 + 1) from fun _ => ⟨b, M, fb, rfl, q1, q2, q3, q4, fun x hx => by rw [q5 hlt x hx, hj]⟩)
      have hgw : g < wr.heap.size := hrow.lt
      clear hj hrow hsd hnm hu hN q3 q5 hr1
      go_wp2
      refine wp_region_ord [(0, .q), (1, .q), (2, .q), (3, .q), (4, .q), (5, .q), (6, .g), (7, .q)] (by kernel_rfl) (by kernel_rfl) ?_
      simp only [pick, List.filterMap_cons, List.filterMap_nil, List.getElem?_toArray, List.getElem?_cons_zero, List.getElem?_cons_succ, Option.map_some]
      repeat (first | ((with_reducible refine wpD_p (fun K hK => ?_)); go_simp; refine hK _ ?_; clear hK K) | ((with_reducible refine wpD_q (fun K hK => ?_)); go_simp; (first | refine hK _ ?_ | (go_bits; refine hK _ ?_) | (go_bits; go_simp; refine hK _ ?_)); clear hK K))
      with_reducible refine wpD_g (fun K hK => ?_)
      go_simp
      refine (markText_any j0 hki3 _).mono ?_
      rintro e w1 ⟨rfl, hb1⟩
      refine ⟨_, rfl, hb1, hK _ _ ?_⟩
      clear hK K
      repeat (first | ((with_reducible refine wpD_p (fun K hK => ?_)); go_simp; refine hK _ ?_; clear hK K) | ((with_reducible refine wpD_q (fun K hK => ?_)); go_simp; (first | refine hK _ ?_ | (go_bits; refine hK _ ?_) | (go_bits; go_simp; refine hK _ ?_)); clear hK K))
      with_reducible refine wpD_nil ?_
      have hc1' := (hb1.cell (p := ⟨g, i * 2 + 1, none⟩) hgw).trans hc1
      have hgw' := Nat.lt_of_lt_of_le hgw hb1.size
      have hb2 := Lib.hid (show Below w.heap.size w w1 by exact bel_)
      have hMk1 := Lib.hid (hMk.out.below (show Below wr.heap.size wr w1 by exact bel_) hhw)
      clear hc1 hc0 hb1
      go_wp2_with fail
      refine (heldInt64S_any (some ⟨b, 0, none⟩) 4 cu (j0 + 1) lo hi _ hMk1.out (by have := hjH.out; omega)).mono ?_
      rintro e w2 ⟨rfl, rfl⟩
      obtain ⟨j1, hj1⟩ : ∃ j1, j0 + 1 + 4 = j1 := ⟨_, rfl⟩
      rw [hj1]
      have hj1H := Lib.hid hj1
      have hk5 : (0 : Int) ≤ (j1 : Int) := by omega
      clear hj1 q4 q1 q2 hN2 hg1 hg2 hc1' hgw' hki hki2 hki3
      go_wp2
      go_roundg (n - (i + 1))
      case measure => omega
      case rel => exact ⟨i + 1, by omega, by go_num, by (have := hjH.out; have := hj1H.out; rw [show k + 5 * (i + 1) = j1 by omega]), hb2.out⟩
    · obtain rfl : i = n := by omega
      go_wp2
      go_ret
      exact ⟨rfl, hbw⟩
theorem OwnSy.glRow {W : World} {lo hi : Nat} {A B C : Option Addr} {ca cb cc : Nat} {us : List Value} {l : Sy} (h : OwnSy W lo hi A B C ca cb cc us l) : MkRow 69 2 lo hi W A l.gs.length := mkRow_hi h.g h.hg
theorem OwnSy.plRow {W : World} {lo hi : Nat} {A B C : Option Addr} {ca cb cc : Nat} {us : List Value} {l : Sy} (h : OwnSy W lo hi A B C ca cb cc us l) : MkRow 67 3 lo hi W C l.xs.length := mkRow_hi h.p h.hp
/-- the whole system bears its marks -/
structure MarkedSy (w : World) (lo hi : Nat) (A B C : Option Addr) (us : List Value) (l : Sy) (k : Nat) : Prop where
  len : us.length = l.ts.length
  g : MarkedG lo hi w A l.gs.length k
  t : TM lo hi w B us (k + 2 * l.gs.length) l.ts.length l.ts.length
  p : Marked 67 3 lo hi w C l.xs.length (k + 2 * l.gs.length + 5 * l.ts.length)
theorem MarkedSy.below {w w' : World} {lo hi k : Nat} {A B C : Option Addr} {us : List Value} {l : Sy} (h : MarkedSy w lo hi A B C us l k) (hb : Below w.heap.size w w') (hh : hi ≤ w.heap.size) : MarkedSy w' lo hi A B C us l k :=
  ⟨h.len, h.g.below hb hh, h.t.below hb hh, h.p.below hb hh⟩
set_option maxHeartbeats 2000000 in
theorem markGlueS_far (A : Option Addr) (n c k lo hi : Nat) (w : World) (h : MkRow 69 2 lo hi w A n) (hk : k + 2 * n ≤ 4611686018427387904) :
    Calls Tryz.prog 42 #[.slice A n c, .int .i64 (k : Int)] w fun e w' => e = .returned (.int .i64 ((k + 2 * n : Nat) : Int)) ∧ Mk lo hi w w' ∧ MarkedG lo hi w' A n k ∧ Far [69] w w' := by
  by_cases hn : n = 0
  · subst hn
    refine (markGlueS_zero A c k w).mono ?_
    rintro e w' ⟨rfl, rfl⟩
    exact ⟨rfl, Mk.refl _ _ _, (fun h => by omega), Far.refl _ _⟩
  · obtain ⟨g, N, f0, rfl, hg1, hg2, hrow0, hN⟩ := h (by omega)
    refine (markGlueS_core g N n c k f0 w hrow0 hN hk).mono ?_
    rintro e w' ⟨he, hm, f, hrow, hcont⟩
    exact ⟨he, hm.weaken hg1 (by omega), (fun _ => ⟨g, N, f, rfl, hg1, hg2, hrow, hN, hcont⟩), Far.of_mk hm hrow0 (by simp)⟩
set_option maxHeartbeats 2000000 in
theorem markAssembly_far (A : Option Addr) (n c k lo hi : Nat) (w : World) (h : MkRow 67 3 lo hi w A n) (hl : lo ≤ w.heap.size) (hk : k + 3 * n ≤ 4611686018427387904) :
    Calls Tryz.prog 22 #[.agg #[.slice A n c], .int .i64 (k : Int)] w fun e w' => e = .returned (.int .i64 ((k + 3 * n : Nat) : Int)) ∧ Mk lo hi w w' ∧ Marked 67 3 lo hi w' A n k ∧ Far [67] w w' := by
  by_cases hn : n = 0
  · subst hn
    refine (markAssembly_c A 0 c k w.heap.size w.heap.size w (fun h => by omega) (Nat.le_refl _) (Nat.le_refl _) hk).mono ?_
    rintro e w' ⟨he, hm, _⟩
    exact ⟨he, Mk.of_below hm.below hl, (fun h => by omega), Far.of_below hm.below⟩
  · obtain ⟨g, N, f0, rfl, hg1, hg2, hrow0, hN⟩ := h (by omega)
    have hlt := hrow0.lt
    refine (markAssembly_c (some ⟨g, 0, none⟩) n c k g (g + 1) w (fun _ => ⟨g, N, f0, rfl, Nat.le_refl _, by omega, hrow0, hN⟩) hlt (by omega) hk).mono ?_
    rintro e w' ⟨he, hm, hc⟩
    refine ⟨he, hm.weaken hg1 (by omega), (fun h0 => ?_), Far.of_mk hm hrow0 (by simp)⟩
    obtain ⟨g', M, f, h1, _, _, h4⟩ := hc h0
    have e2 : g = g' := congrArg Addr.block (Option.some.inj h1)
    subst e2
    exact ⟨g, M, f, rfl, hg1, hg2, h4⟩
set_option maxRecDepth 100000 in
set_option maxHeartbeats 2000000 in
theorem markTileSet_r (A B : Option Addr) (n c m d k lo hi : Nat) (us : List Value) (w : World) (hus : us.length = m) (h : MkRow 69 2 lo hi w A n) (h2 : TM lo hi w B us (k + 2 * n) 0 0) (hh : hi ≤ w.heap.size) (hl : lo ≤ w.heap.size) (hk : k + 2 * n + 5 * m ≤ 4611686018427387904) :
    Calls Tryz.prog 21 #[.agg #[.slice A n c, .slice B m d], .int .i64 (k : Int)] w fun e w' => e = .returned (.int .i64 ((k + 2 * n + 5 * m : Nat) : Int)) ∧ Mk lo hi w w' ∧ MarkedG lo hi w' A n k ∧ TM lo hi w' B us (k + 2 * n) m m ∧ Far [69, 73, 2] w w' := by
  have ha : Below w.heap.size w (w.alloc (.cells #[.slice A n c, .slice B m d] 25)) := bl_al (bl_refl _) _
  have haH := Lib.hid ha
  have h' := Lib.hid (h.below ha hh)
  have h2' := Lib.hid (h2.below ha hh)
  clear h h2 ha
  go_enter Tryz.func21, Tryz.ntmps21
  go_wp2_with fail
  refine (markGlueS_far A n c k lo hi _ h'.out (by omega)).mono ?_
  rintro e w1 ⟨rfl, hm1, hg1, hf1⟩
  have hs1 := hm1.size
  have y1 : w1.cell? ⟨w.heap.size, 1, none⟩ = some (.slice B m d) := (World.cell?_of_block (a := ⟨w.heap.size, 1, none⟩) (hm1.keep w.heap.size hh (by simp))).trans (by go_simp)
  have l1 : w.heap.size < w1.heap.size := by simp at hs1; omega
  have hm1H := Lib.hid hm1
  have hg1H := Lib.hid hg1
  have hf1H := Lib.hid hf1
  have hT1H := Lib.hid (h2'.out.ofFar hf1 (by decide) (by decide))
  clear hm1 hg1 hf1
  go_wp2_with fail
  refine (markTileS_r B m d (k + 2 * n) lo hi us _ hus hT1H.out (by omega) (by omega) (by omega)).mono ?_
  rintro e w2 ⟨rfl, hm2, ht2, hf2⟩
  have hm2H := Lib.hid hm2
  have ht2H := Lib.hid ht2
  have hf2H := Lib.hid hf2
  clear hm2 ht2 hf2
  go_wp2
  go_ret
  exact ⟨rfl, (Mk.of_below haH.out hl).trans (hm1H.out.trans hm2H.out), hg1H.out.ofFar hf2H.out (by decide), ht2H.out, ((Far.of_below haH.out).trans (hf1H.out.weaken (by simp))).trans (hf2H.out.weaken (by simp))⟩
set_option maxRecDepth 100000 in
set_option maxHeartbeats 2000000 in
theorem heldTileSet_r (A B : Option Addr) (n c m d k lo hi : Nat) (us : List Value) (w : World) (hus : us.length = m) (h : MarkedG lo hi w A n k) (h2 : TM lo hi w B us (k + 2 * n) m m) (hh : hi ≤ w.heap.size) (hk : k + 2 * n + 5 * m ≤ 4611686018427387904) :
    Calls Tryz.prog 23 #[.agg #[.slice A n c, .slice B m d], .int .i64 (k : Int)] w fun e w' => e = .returned (.int .i64 ((k + 2 * n + 5 * m : Nat) : Int)) ∧ Below w.heap.size w w' := by
  
  have ha : Below w.heap.size w (w.alloc (.cells #[.slice A n c, .slice B m d] 25)) := bl_al (bl_refl _) _
  have haH := Lib.hid ha
  have h' := Lib.hid (h.below ha hh)
  have h2' := Lib.hid (h2.below ha hh)
  clear h h2 ha
  go_enter Tryz.func23, Tryz.ntmps23
  go_wp2_with fail
  refine (heldGlueS_any A n c k lo hi _ h'.out (by simp; omega) (by omega)).mono ?_
  rintro e w1 ⟨rfl, hb1⟩
  have hB1 := Lib.hid (haH.out.trans (hb1.mono haH.out.size))
  have hT1 := Lib.hid (h2'.out.below hb1 (by simp; omega))
  have y1 := (hb1.cell (p := ⟨w.heap.size, 1, none⟩) (by go_simp)).trans (show _ = some (Value.slice B m d) by go_simp)
  have l1 : w.heap.size < w1.heap.size := by have := hb1.size; simp at this; omega
  have k1 : (0 : Int) ≤ ((k + 2 * n : Nat) : Int) := by omega
  clear hb1
  go_wp2_with fail
  refine (heldTileS_r B m d (k + 2 * n) lo hi us _ hus hT1.out (by omega) (by omega)).mono ?_
  rintro e w2 ⟨rfl, hb2⟩
  have hB2 := Lib.hid (hB1.out.trans (hb2.mono hB1.out.size))
  have k2 : (0 : Int) ≤ ((k + 2 * n + 5 * m : Nat) : Int) := by omega
  clear hb2
  go_wp2
  go_ret
  exact ⟨rfl, hB2.out⟩
set_option maxRecDepth 100000 in
set_option maxHeartbeats 2000000 in
theorem markSystem_r (A B C : Option Addr) (ca cb cc k lo hi : Nat) (us : List Value) (l : Sy) (w : World) (h : OwnSy w lo hi A B C ca cb cc us l) (hl : lo ≤ w.heap.size) (hk : k + 2 * l.gs.length + 5 * l.ts.length + 3 * l.xs.length ≤ 4611686018427387904) :
    Calls Tryz.prog 7 #[.agg #[.slice A l.gs.length ca, .slice B l.ts.length cb, .slice C l.xs.length cc, .int .i64 l.t], .int .i64 (k : Int)] w fun e w' => e = .returned (.int .i64 ((k + 2 * l.gs.length + 5 * l.ts.length + 3 * l.xs.length : Nat) : Int)) ∧ Mk lo hi w w' ∧ MarkedSy w' lo hi A B C us l k := by
  have ha : Below w.heap.size w (w.alloc (.cells #[.slice A l.gs.length ca, .slice B l.ts.length cb, .slice C l.xs.length cc, .int .i64 l.t] 30)) := bl_al (bl_refl _) _
  have haH := Lib.hid ha
  have hh := h.hh
  have hus := h.t.len
  have hG := Lib.hid (h.glRow.below ha hh)
  have hT := Lib.hid ((TM.of h (k + 2 * l.gs.length)).below ha hh)
  have hP := Lib.hid (h.plRow.below ha hh)
  clear h ha
  go_enter Tryz.func7, Tryz.ntmps7
  go_wp2_with fail
  refine (markTileSet_r A B l.gs.length ca l.ts.length cb k lo hi us _ hus hG.out hT.out (by simp; omega) (by simp; omega) (by omega)).mono ?_
  rintro e1 w1 ⟨rfl, hm1, hg1, ht1, hf1⟩
  have hs1 := hm1.size
  have y1 : w1.cell? ⟨w.heap.size, 2, none⟩ = some (.slice C l.xs.length cc) := (World.cell?_of_block (a := ⟨w.heap.size, 2, none⟩) (hm1.keep w.heap.size (by omega) (by simp))).trans (by go_simp)
  have l1 : w.heap.size < w1.heap.size := by simp at hs1; omega
  have hm1H := Lib.hid hm1
  have hg1H := Lib.hid hg1
  have ht1H := Lib.hid ht1
  have hp := Lib.hid (hP.out.ofFar hf1 (by decide))
  clear hm1 hg1 ht1 hf1
  go_wp2_with fail
  refine (markAssembly_far C l.xs.length cc (k + 2 * l.gs.length + 5 * l.ts.length) lo hi _ hp.out (by omega) (by omega)).mono ?_
  rintro e2 w2 ⟨rfl, hm2, hp2, hf2⟩
  have hm2H := Lib.hid hm2
  have hp2H := Lib.hid hp2
  have hf2H := Lib.hid hf2
  clear hm2 hp2 hf2
  go_wp2
  go_ret
  exact ⟨rfl, (Mk.of_below haH.out hl).trans (hm1H.out.trans hm2H.out), hus, hg1H.out.ofFar hf2H.out (by decide), ht1H.out.ofFar hf2H.out (by decide) (by decide), hp2H.out⟩
set_option maxRecDepth 100000 in
set_option maxHeartbeats 2000000 in
theorem heldSystem_r (A B C : Option Addr) (ca cb cc k lo hi : Nat) (us : List Value) (l : Sy) (w : World) (h : MarkedSy w lo hi A B C us l k) (hh : hi ≤ w.heap.size) (hk : k + 2 * l.gs.length + 5 * l.ts.length + 3 * l.xs.length ≤ 4611686018427387904) :
    Calls Tryz.prog 8 #[.agg #[.slice A l.gs.length ca, .slice B l.ts.length cb, .slice C l.xs.length cc, .int .i64 l.t], .int .i64 (k : Int)] w fun e w' => e = .returned (.int .i64 ((k + 2 * l.gs.length + 5 * l.ts.length + 3 * l.xs.length : Nat) : Int)) ∧ Below w.heap.size w w' := by
  
  have ha : Below w.heap.size w (w.alloc (.cells #[.slice A l.gs.length ca, .slice B l.ts.length cb, .slice C l.xs.length cc, .int .i64 l.t] 30)) := bl_al (bl_refl _) _
  have haH := Lib.hid ha
  have h' := Lib.hid (h.below ha hh)
  clear h ha
  go_enter Tryz.func8, Tryz.ntmps8
  go_wp2_with fail
  refine (heldTileSet_r A B l.gs.length ca l.ts.length cb k lo hi us _ h'.out.len h'.out.g h'.out.t (by simp; omega) (by omega)).mono ?_
  rintro e w1 ⟨rfl, hb1⟩
  have hB1 := Lib.hid (haH.out.trans (hb1.mono haH.out.size))
  have hP1 := Lib.hid (h'.out.p.below hb1 (by simp; omega))
  have y1 := (hb1.cell (p := ⟨w.heap.size, 2, none⟩) (by go_simp)).trans (show _ = some (Value.slice C l.xs.length cc) by go_simp)
  have l1 : w.heap.size < w1.heap.size := by have := hb1.size; simp at this; omega
  have k1 : (0 : Int) ≤ ((k + 2 * l.gs.length + 5 * l.ts.length : Nat) : Int) := by omega
  clear hb1
  go_wp2_with fail
  refine (heldAssembly_any C l.xs.length cc (k + 2 * l.gs.length + 5 * l.ts.length) lo hi _ hP1.out (by omega) (by omega)).mono ?_
  rintro e w2 ⟨rfl, hb2⟩
  have hB2 := Lib.hid (hB1.out.trans (hb2.mono hB1.out.size))
  have k2 : (0 : Int) ≤ ((k + 2 * l.gs.length + 5 * l.ts.length + 3 * l.xs.length : Nat) : Int) := by omega
  clear hb2
  go_wp2
  go_ret
  exact ⟨rfl, hB2.out⟩
end Go.Proofs.YtpnahobgmemdjaaGreatDoor
/- Words on rows of tiles and systems of one's own. -/


namespace Go.Proofs.YtpnahobgmemdjaaGreatDoor
open Go.RowKit Go.Shelf
def noSy (c : Int) : Sy × Int := (⟨[], [], [], 0⟩, c)
theorem noSy_small (c : Int) : SmallSy (noSy c).1 := ⟨Nat.zero_le _, Nat.zero_le _, Nat.zero_le _, fun e he => by cases he⟩
def Four (ts : List Ti) : Prop := ∀ e ∈ ts, e.sides.length = 4
theorem opp4 {d : Nat} (h : d < 4) : oppN d < 4 := by unfold oppN; split <;> omega
def slV (b : Nat) : Value := .slice (some ⟨b, 0, none⟩) 4 4
/-- rows of different types lie in different blocks -/
theorem own_ne_own {w : World} {base base' : Nat} {e1 e2 : TypeId} {s1 s2 : Nat} {v1 v2 : Value} {n1 n2 : Nat} {xs1 xs2 : List Value} (h : w.ownsRow base e1 s1 v1 n1 xs1) (k : w.ownsRow base' e2 s2 v2 n2 xs2) (hne : e1 ≠ e2) {g : Nat} (h1 : v1.ownBlock = some g) : v2.ownBlock ≠ some g := by
  rcases h.2 with ⟨hv, _⟩ | ⟨g', cap, cur, hv, _, hh, _⟩
  · subst hv; cases h1
  · subst hv
    have h1 : some g' = some g := h1
    injection h1 with h1
    subst h1
    exact own_ne_row k (N := cur.size) (f := fun i => cur.getD i undef) ⟨cur, hh, rfl, fun i hi => by simp [hi]⟩ (Ne.symm hne)
theorem OwnT.keptG {w w' : World} {base base' : Nat} {T E G : TypeId} {v v1 : Value} {us : List Value} {ts : List Ti} {s n : Nat} {xs : List Value} (h : OwnT w base T E v us ts) (hG : w.ownsRow base' G s v1 n xs) (hT : G ≠ T) (hE : G ≠ E) (hg : w.grownBy w' v1.ownBlock) : OwnT w' base T E v us ts :=
  h.kept hg (fun g e => ⟨own_ne_own hG h.outer hT e, fun k u hu => by
    obtain ⟨t, _, hr⟩ := h.get hu
    exact own_ne_own hG hr hE e⟩)
/-- the cell of a tile's sides -/
theorem OwnT.outAt {w : World} {base : Nat} {T E : TypeId} {v : Value} {us : List Value} {ts : List Ti} {k : Nat} {u : Value} (h : OwnT w base T E v us ts) (hu : us[k]? = some u) : ∃ g c, v = .slice (some ⟨g, 0, none⟩) us.length c ∧ base ≤ g ∧ g < w.heap.size ∧ w.cell? ⟨g, k * 2 + 1, none⟩ = some u := by
  have hku := (List.getElem?_eq_some_iff.1 hu).1
  rcases h.outer.2 with ⟨_, h0⟩ | ⟨g, cap, cur, hv, hb, hh, hnc, hm, hs, ht⟩
  · omega
  · refine ⟨g, cap, hv, hb, (Array.getElem?_eq_some_iff.1 hh).1, ?_⟩
    obtain ⟨t, ht', _⟩ := h.get hu
    have hz : ((ts.map Ti.name).zip us)[k]? = some (t.name, u) := by
      rw [List.getElem?_zip_eq_some]
      exact ⟨by rw [List.getElem?_map, ht']; rfl, hu⟩
    have hg := flatC_get encNU_len _ k _ hz 1 (by omega)
    rw [← ht, List.getElem?_take] at hg
    split at hg
    · simp only [World.cell?, hh]
      have : cur[k * 2 + 1]? = some u := by rw [← Array.getElem?_toList, hg]; rfl
      simpa using this
    · cases hg
theorem bl_sys {w w1 : World} (h : Below w.heap.size w w1) (a b c d : Value) : Below w.heap.size w ((((w1.setCell ⟨w.heap.size, 0, none⟩ a).setCell ⟨w.heap.size, 1, none⟩ b).setCell ⟨w.heap.size, 2, none⟩ c).setCell ⟨w.heap.size, 3, none⟩ d) :=
  (((h.setCell (p := ⟨w.heap.size, 0, none⟩) (Nat.le_refl _) a).setCell (p := ⟨w.heap.size, 1, none⟩) (Nat.le_refl _) b).setCell (p := ⟨w.heap.size, 2, none⟩) (Nat.le_refl _) c).setCell (p := ⟨w.heap.size, 3, none⟩) (Nat.le_refl _) d
theorem OwnSy.of {W : World} {lo base : Nat} {A B C : Option Addr} {ca cb cc : Nat} {us : List Value} {gs : List Gl} {ts : List Ti} {xs : List Pl} {t : Int} (hlo : lo ≤ base) (hl : lo ≤ W.heap.size) (hg : W.ownsRow base 69 2 (.slice A gs.length ca) gs.length (flatC encGl gs)) (ht : OwnT W base 73 2 (.slice B ts.length cb) us ts) (hp : W.ownsRow base 67 3 (.slice C xs.length cc) xs.length (plCells xs)) (h4 : Four ts) :
    OwnSy W lo W.heap.size A B C ca cb cc us ⟨gs, ts, xs, t⟩ :=
  ⟨ownsRow_lo hg hlo, ht.rebase hlo, ownsRow_lo hp hlo, h4, fun g e => (hg.lt g e).2, fun g e => (ht.lt g e).2, fun k u g hu e => (ht.ltIn hu g e).2, fun g e => (hp.lt g e).2, Nat.le_refl _⟩
/-- four cells of one block below the base are set -/
theorem row_set4 {W : World} {base b : Nat} {e : TypeId} {size n : Nat} {v : Value} {xs : List Value} (h : W.ownsRow base e size v n xs) (hb : b < base) (x0 x1 x2 x3 : Value) : ((((W.setCell ⟨b, 0, none⟩ x0).setCell ⟨b, 1, none⟩ x1).setCell ⟨b, 2, none⟩ x2).setCell ⟨b, 3, none⟩ x3).ownsRow base e size v n xs :=
  ownsRow_setB (ownsRow_setB (ownsRow_setB (ownsRow_setB h (p := ⟨b, 0, none⟩) hb x0) (p := ⟨b, 1, none⟩) hb x1) (p := ⟨b, 2, none⟩) hb x2) (p := ⟨b, 3, none⟩) hb x3
theorem OwnT.set4 {W : World} {base b : Nat} {T E : TypeId} {v : Value} {us : List Value} {ts : List Ti} (h : OwnT W base T E v us ts) (hb : b < base) (x0 x1 x2 x3 : Value) : OwnT ((((W.setCell ⟨b, 0, none⟩ x0).setCell ⟨b, 1, none⟩ x1).setCell ⟨b, 2, none⟩ x2).setCell ⟨b, 3, none⟩ x3) base T E v us ts :=
  (((h.setBelow (p := ⟨b, 0, none⟩) hb x0).setBelow (p := ⟨b, 1, none⟩) hb x1).setBelow (p := ⟨b, 2, none⟩) hb x2).setBelow (p := ⟨b, 3, none⟩) hb x3
theorem SyRes.none_ {w w' : World} {r : Sy × Int} {c : Int} (h : noSy c = r) (hb : Below w.heap.size w w') : SyRes w r (.returned (.tuple #[.agg #[.slice none 0 0, .slice none 0 0, .slice none 0 0, .int .i64 0], .int .i64 c])) w' := by
  subst h
  exact ⟨Option.none, Option.none, Option.none, 0, 0, 0, [], rfl, OwnSy.empty w' hb.size, hb⟩
theorem SyRes.boxed {w w2 : World} {lo : Nat} {r : Sy × Int} {A B C : Option Addr} {ca cb cc : Nat} {us : List Value} (h1 : OwnSy w2 lo w2.heap.size A B C ca cb cc us r.1) (hl : w.heap.size < lo) (hb : Below w.heap.size w w2) :
    SyRes w r (.returned (.tuple #[.agg #[.slice A r.1.gs.length ca, .slice B r.1.ts.length cb, .slice C r.1.xs.length cc, .int .i64 r.1.t], .int .i64 r.2]))
      ((((w2.setCell ⟨w.heap.size, 0, none⟩ (.slice A r.1.gs.length ca)).setCell ⟨w.heap.size, 1, none⟩ (.slice B r.1.ts.length cb)).setCell ⟨w.heap.size, 2, none⟩ (.slice C r.1.xs.length cc)).setCell ⟨w.heap.size, 3, none⟩ (.int .i64 r.1.t)) := by
  refine ⟨A, B, C, ca, cb, cc, us, rfl, ?_, bl_sys hb _ _ _ _⟩
  have hz := hb.size
  exact OwnSy.of (base := lo) (by omega) (by simpa using hz) (row_set4 h1.g hl _ _ _ _) (h1.t.set4 hl _ _ _ _) (row_set4 h1.p hl _ _ _ _) h1.four
theorem SyRes.boxedA {w w2 : World} {lo : Nat} {r : Sy × Int} {A B C : Option Addr} {ca cb cc : Nat} {us : List Value} (h1 : OwnSy w2 lo w2.heap.size A B C ca cb cc us r.1) (hl : w.heap.size < lo) (hb : Below w.heap.size w w2) (o : Obj) :
    SyRes w r (.returned (.tuple #[.agg #[.slice A r.1.gs.length ca, .slice B r.1.ts.length cb, .slice C r.1.xs.length cc, .int .i64 r.1.t], .int .i64 r.2]))
      (((((w2.setCell ⟨w.heap.size, 0, none⟩ (.slice A r.1.gs.length ca)).setCell ⟨w.heap.size, 1, none⟩ (.slice B r.1.ts.length cb)).setCell ⟨w.heap.size, 2, none⟩ (.slice C r.1.xs.length cc)).setCell ⟨w.heap.size, 3, none⟩ (.int .i64 r.1.t)).alloc o) := by
  refine ⟨A, B, C, ca, cb, cc, us, rfl, ?_, bl_al (bl_sys hb _ _ _ _) o⟩
  have hz := hb.size
  exact OwnSy.of (base := lo) (by omega) (by simp; omega) ((row_set4 h1.g hl _ _ _ _).alloc o) ((h1.t.set4 hl _ _ _ _).below (bl_al (bl_refl _) _)) ((row_set4 h1.p hl _ _ _ _).alloc o) h1.four
end Go.Proofs.YtpnahobgmemdjaaGreatDoor
