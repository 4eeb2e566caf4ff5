import Derived.Test.YtkfjojpohcieeaaHMk
import Derived.Laws.IdiomStrings
import Derived.Laws.Concat
import Derived.Test.YtkfjojpohcieeaaP2
import Derived.Test.YtkfjojpohcieeaaW20a
import Derived.Test.YtkfjojpohcieeaaPts
import Derived.Test.YtkfjojpohcieeaaN1
import Derived.Test.YtkfjojpohcieeaaW1
import Derived.Test.YtkfjojpohcieeaaBase2
import Derived.Test.YtkfjojpohcieeaaHTo
set_option linter.unusedSimpArgs false
set_option linter.unusedVariables false
/- Walks: the harness' marks. -/



namespace Go.Proofs.Ytkfjojpohcieeaa
open Go.RowKit
attribute [local go_sem] BelowBy.cell BelowBy.cell_drew stillUpon givesUpon

/-- what a mark leaves -/
def MkRes (lo hi : Nat) (w : World) (r : Nat) (e : Ending) (w' : World) : Prop := e = .returned (.int .i64 (r : Int)) ∧ Mk lo hi w w'
def MkRes2 (lo hi : Nat) (w : World) (k top : Nat) (e : Ending) (w' : World) : Prop := ∃ r : Nat, e = .returned (.int .i64 (r : Int)) ∧ k ≤ r ∧ r ≤ top ∧ Mk lo hi w w'
/-- markText -/
def digB (j : Nat) : UInt8 := UInt8.ofNat (48 + j % 10)
def mkDig : Nat → Nat → ByteArray → ByteArray
  | 0, _, s => s
  | f + 1, j, s => if j = 0 then s else mkDig f (j / 10) (⟨[digB j].toArray⟩ ++ s)
def markS (k : Nat) : ByteArray := if k = 0 then ⟨#[109, 48]⟩ else ⟨#[109]⟩ ++ mkDig (k + 1) k ⟨#[]⟩
theorem mkDig_zero (f : Nat) (s : ByteArray) : mkDig f 0 s = s := by cases f <;> simp [mkDig]
theorem mkDig_pos (f j : Nat) (s : ByteArray) (hj : 0 < j) : mkDig (f + 1) j s = mkDig f (j / 10) (⟨[digB j].toArray⟩ ++ s) := by
  simp only [mkDig]; rw [if_neg (by omega)]
theorem size_snoc1 (u : UInt8) (s : ByteArray) : ((⟨[u].toArray⟩ : ByteArray) ++ s).size = s.size + 1 := by
  rw [ByteArray.size_append]; show 1 + s.size = _; omega
theorem run_digit (t t9 u : TypeId) (ht : Try.prog.underlying t = some (.slice u)) (hu : Try.prog.underlying u = some (.int .u8)) (h9 : Try.prog.underlying t9 = some .string) (j : Nat) (W : World) :
    (convert t t9 (.slice (some ⟨W.heap.size, 0, none⟩) 1 1)).run Try.prog (W.alloc (.cells #[.int .u8 (48 + (j : Int) % 10)] u)) = .ok (.string ⟨[digB j].toArray⟩) (W.alloc (.cells #[.int .u8 (48 + (j : Int) % 10)] u)) := by
  have := run_convert_bytes_back (P := Try.prog) (W.alloc (.cells #[.int .u8 (48 + (j : Int) % 10)] u)) t t9 u ⟨W.heap.size, 0, none⟩ 1 [digB j] ht hu h9 (fun i hi => by
    obtain rfl : i = 0 := by simpa using hi
    simp [Addr.add, digB]
    omega)
  exact this
def MarkT (w : World) (k : Nat) (e : Ending) (w' : World) : Prop := e = .returned (.string (markS k)) ∧ Below w.heap.size w w'
end Go.Proofs.Ytkfjojpohcieeaa
/- Walks: the harness' marks on slices of structs of numbers, what they leave, and what 'held' says of it. -/


namespace Go.Proofs.Ytkfjojpohcieeaa
open Go.RowKit
attribute [local go_sem] BelowBy.cell BelowBy.cell_drew stillUpon givesUpon

/-- the cells bear the numbers from k on -/
def Marked (T : TypeId) (size lo hi : Nat) (w : World) (A : Option Addr) (n k : Nat) : Prop :=
  0 < n → ∃ g N f, A = some ⟨g, 0, none⟩ ∧ lo ≤ g ∧ g < hi ∧ w.rowIs g T N f ∧ n * size ≤ N ∧ ∀ j, j < n * size → f j = .int .i64 ((k + j : Nat) : Int)
theorem Marked.keep {T : TypeId} {size lo hi k : Nat} {w w' : World} {A : Option Addr} {n : Nat} (h : Marked T size lo hi w A n k) (hk : ∀ k, lo ≤ k → k < hi → w'.heap[k]? = w.heap[k]?) : Marked T size lo hi w' A n k := fun hn => by
  obtain ⟨g, N, f, h1, h2, h3, h4, h5, h6⟩ := h hn
  exact ⟨g, N, f, h1, h2, h3, h4.of_block (hk g h2 h3), h5, h6⟩
theorem Marked.below {T : TypeId} {size lo hi k : Nat} {w w' : World} {A : Option Addr} {n : Nat} (h : Marked T size lo hi w A n k) (hb : Below w.heap.size w w') (hh : hi ≤ w.heap.size) : Marked T size lo hi w' A n k := h.keep fun k _ h2 => hb.block k (by omega)
def MkCore (T : TypeId) (size g N n k : Nat) (w : World) (r : Nat) (e : Ending) (w' : World) : Prop := e = .returned (.int .i64 (r : Int)) ∧ Mk g (g + 1) w w' ∧ ∃ f, w'.rowIs g T N f ∧ ∀ j, j < n * size → f j = .int .i64 ((k + j : Nat) : Int)
def MkResC (T : TypeId) (size lo hi : Nat) (A : Option Addr) (n k : Nat) (w : World) (r : Nat) (e : Ending) (w' : World) : Prop := e = .returned (.int .i64 (r : Int)) ∧ Mk lo hi w w' ∧ Marked T size lo hi w' A n k

set_option maxRecDepth 100000 in
set_option maxHeartbeats 2000000 in
theorem markPlacedS_zero (A : Option Addr) (c k : Nat) (w : World) :
    Calls Try.prog 38 #[.slice A 0 c, .int .i64 (k : Int)] w fun e w' => e = .returned (.int .i64 (k : Int)) ∧ w = w' := by
  go_enter Try.func38, Try.ntmps38
  go_wp2
  refine wp_loop_rounds 1 ?_
  rw [rounds_succ]
  go_wp2
  go_ret
  exact ⟨rfl, rfl⟩
set_option maxRecDepth 100000 in
set_option maxHeartbeats 2000000 in
theorem markPlacedS_core (g N n c k : Nat) (f0 : Nat → Value) (w : World) (hrow0 : w.rowIs g 81 N f0) (hN : n * 3 ≤ N) (hk : k + 3 * n ≤ 4611686018427387904) :
    Calls Try.prog 38 #[.slice (some ⟨g, 0, none⟩) n c, .int .i64 (k : Int)] w (MkCore 81 3 g N n k w (k + 3 * n)) := by
  have hg1 : g ≤ g := Nat.le_refl _
  have hg2 : g < g + 1 := Nat.lt_succ_self _
  go_enter Try.func38, Try.ntmps38
  go_wp2
  go_loopg [5, 1] n (fun r x kk wr => ∃ (i : Nat) (f : Nat → Value), i + r = n ∧ x = .int .i64 (i : Int) ∧ kk = .int .i64 ((k + 3 * i : Nat) : Int) ∧ wr.rowIs g 81 N f ∧ (∀ j, j < i * 3 → f j = .int .i64 ((k + j : Nat) : Int)) ∧ Mk g (g + 1) w wr)
  case atStart => exact ⟨0, f0, by omega, rfl, rfl, hrow0, fun j hj => by omega, Mk.refl _ _ _⟩
  case round =>
    obtain ⟨i, f, hi', rfl, rfl, hrow, hcont, hm⟩ := hrel
    have hcontH := Lib.hid hcont
    have hmH := Lib.hid hm
    clear hcont hm
    by_cases hlt : i < n
    · obtain ⟨j0, hj⟩ : ∃ j0, j0 = k + 3 * i := ⟨_, rfl⟩
      have hki : (0 : Int) ≤ (j0 : Int) := by omega
      have hki2 : (j0 : Int) + 3 < 4611686018427387910 := by omega
      have hjH := Lib.hid hj
      rw [← hj]
      clear hj
      have hc0 := hrow.cell (i := i * 3) (by omega)
      have hf0 := hrow.frozen (i * 3)
      have hc1 := hrow.cell (i := i * 3 + 1) (by omega)
      have hf1 := hrow.frozen (i * 3 + 1)
      have hc2 := hrow.cell (i := i * 3 + 2) (by omega)
      have hf2 := hrow.frozen (i * 3 + 2)
      have hrowH := Lib.hid hrow
      clear hrow
      go_wp2
      go_roundg (n - (i + 1))
      case measure => omega
      case rel => exact ⟨i + 1, _, by omega, by go_num, by (have := hjH.out; rw [show k + 3 * (i + 1) = j0 + 1 + 1 + 1 by omega]; go_num), (((hrowH.out.set (i * 3) _).set (i * 3 + 1) _).set (i * 3 + 2) _), fun j hj => (by
        have hcont := hcontH.out
        have h0 := hjH.out
        rcases (show j < i * 3 ∨ j = i * 3 ∨ j = i * 3 + 1 ∨ j = i * 3 + 2 by omega) with hjj | hjj | hjj | hjj
        · rw [if_neg (by omega), if_neg (by omega), if_neg (by omega)]; exact hcont j hjj
        · rw [if_neg (by omega), if_neg (by omega), if_pos (by omega)]; exact congrArg (Value.int IntKind.i64) (by have := hjH.out; omega)
        · rw [if_neg (by omega), if_pos (by omega)]; exact congrArg (Value.int IntKind.i64) (by have := hjH.out; omega)
        · rw [if_pos (by omega)]; exact congrArg (Value.int IntKind.i64) (by have := hjH.out; omega)), ((((hmH.out).set (p := ⟨g, i * 3, none⟩) hg1 hg2 _).set (p := ⟨g, i * 3 + 1, none⟩) hg1 hg2 _).set (p := ⟨g, i * 3 + 2, none⟩) hg1 hg2 _)⟩
    · obtain rfl : i = n := by omega
      go_wp2
      go_ret
      exact ⟨rfl, hmH.out, f, hrow, hcontH.out⟩
theorem markPlacedS_c (A : Option Addr) (n c k lo hi : Nat) (w : World) (h : MkRow 81 3 lo hi w A n) (hh : hi ≤ w.heap.size) (hl : lo ≤ w.heap.size) (hk : k + 3 * n ≤ 4611686018427387904) :
    Calls Try.prog 38 #[.slice A n c, .int .i64 (k : Int)] w (MkResC 81 3 lo hi A n k w (k + 3 * n)) := by
  by_cases hn : n = 0
  · subst hn
    refine (markPlacedS_zero A c k w).mono ?_
    rintro e w' ⟨rfl, rfl⟩
    exact ⟨rfl, Mk.refl _ _ _, fun h => by omega⟩
  · obtain ⟨g, N, f0, rfl, hg1, hg2, hrow0, hN⟩ := h (by omega)
    refine (markPlacedS_core g N n c k f0 w hrow0 hN hk).mono ?_
    rintro e w' ⟨he, hm, f, hrow, hcont⟩
    exact ⟨he, hm.weaken hg1 (by omega), fun _ => ⟨g, N, f, rfl, hg1, hg2, hrow, hN, hcont⟩⟩
theorem markPlacedS_any (A : Option Addr) (n c k lo hi : Nat) (w : World) (h : MkRow 81 3 lo hi w A n) (hh : hi ≤ w.heap.size) (hl : lo ≤ w.heap.size) (hk : k + 3 * n ≤ 4611686018427387904) :
    Calls Try.prog 38 #[.slice A n c, .int .i64 (k : Int)] w (MkRes lo hi w (k + 3 * n)) :=
  (markPlacedS_c A n c k lo hi w h hh hl hk).mono fun _ _ h => ⟨h.1, h.2.1⟩
end Go.Proofs.Ytkfjojpohcieeaa
/- Walks: the harness' marks on sets and assemblies. -/

namespace Go.Proofs.Ytkfjojpohcieeaa
open Go.RowKit
attribute [local go_sem] BelowBy.cell BelowBy.cell_drew stillUpon givesUpon

theorem rowIs_size {w : World} {g N M : Nat} {T : TypeId} {f f' : Nat → Value} (h : w.rowIs g T N f) (k : w.rowIs g T M f') : N = M := by
  obtain ⟨c, hc, hs, _⟩ := h
  obtain ⟨c', hc', hs', _⟩ := k
  rw [hc] at hc'
  injection hc' with hc'
  injection hc' with hc'
  rw [← hs, ← hs', hc']
theorem rowIs_ne {w : World} {g b N M : Nat} {T U : TypeId} {f f' : Nat → Value} (h : w.rowIs g T N f) (k : w.rowIs b U M f') (hne : T ≠ U) : g ≠ b := by
  rintro rfl
  obtain ⟨c, hc, _⟩ := h
  obtain ⟨c', hc', _⟩ := k
  rw [hc] at hc'
  injection hc' with hc'
  injection hc' with _ ht
  exact hne ht
theorem markAssembly_any (A : Option Addr) (n c k lo hi : Nat) (w : World) (h : MkRow 81 3 lo hi w A n) (hh : hi ≤ w.heap.size) (hl : lo ≤ w.heap.size) (hk : k + 3 * n ≤ 4611686018427387904) :
    Calls Try.prog 20 #[.agg #[.slice A n c], .int .i64 (k : Int)] w (MkRes lo hi w (k + 3 * n)) := by
  have ha : Below w.heap.size w (w.alloc (.cells #[.slice A n c] 40)) := bl_al (bl_refl _) _
  have haH := Lib.hid ha
  have h' := Lib.hid (h.below ha hh)
  clear h ha
  go_enter Try.func20, Try.ntmps20
  go_wp2_with fail
  refine (markPlacedS_any A n c k lo hi _ h'.out (by simp; omega) (by simp; omega) hk).mono ?_
  rintro e w1 ⟨rfl, hm1⟩
  have hm1H := Lib.hid hm1
  clear hm1
  go_wp2
  go_ret
  exact ⟨rfl, (Mk.of_below haH.out hl).trans hm1H.out⟩
end Go.Proofs.Ytkfjojpohcieeaa
/- Small words for the laws' walks. -/


namespace Go.Proofs.Ytkfjojpohcieeaa
open Go.RowKit
theorem MkRow.lo_ {T : TypeId} {size lo lo' hi : Nat} {w : World} {A : Option Addr} {n : Nat} (h : MkRow T size lo hi w A n) (hl : lo' ≤ lo) : MkRow T size lo' hi w A n := fun hn => by
  obtain ⟨g, N, f, h1, h2, h3, h4, h5⟩ := h hn
  exact ⟨g, N, f, h1, Nat.le_trans hl h2, h3, h4, h5⟩
theorem MkTiles.lo_ {TT TI lo lo' hi : Nat} {w : World} {A : Option Addr} {m : Nat} (h : MkTiles TT TI lo hi w A m) (hl : lo' ≤ lo) : MkTiles TT TI lo' hi w A m := fun hm => by
  obtain ⟨g, N, f, h1, h2, h3, h4, h5, h6⟩ := h hm
  refine ⟨g, N, f, h1, Nat.le_trans hl h2, h3, h4, h5, fun k hk => ?_⟩
  obtain ⟨A', n', g1, g2, g3⟩ := h6 k hk
  exact ⟨A', n', g1, g2, g3.lo_ hl⟩
theorem markAssembly_any2 (A : Option Addr) (n c k lo hi : Nat) (w : World) (h : MkRow 81 3 lo hi w A n) (hh : hi ≤ w.heap.size) (hl : lo ≤ w.heap.size) (hk : k + 3 * n ≤ 4611686018427387904) :
    Calls Try.prog 20 #[.agg #[.slice A n c], .int .i64 (k : Int)] w (MkRes2 lo hi w k (k + 3 * n)) :=
  (markAssembly_any A n c k lo hi w h hh hl hk).mono fun _ _ h => ⟨_, h.1, by omega, Nat.le_refl _, h.2⟩
theorem ownsRow_mk {w w' : World} {base lo hi : Nat} {e : TypeId} {size : Nat} {v : Value} {n : Nat} {xs : List Value} (h : w.ownsRow base e size v n xs) (hm : Mk lo hi w w') (hl : hi ≤ base) : w'.ownsRow base e size v n xs :=
  ⟨h.1, h.2.imp id (fun ⟨g, cap, cur, h1, h2, h3, h4⟩ => ⟨g, cap, cur, h1, h2, (hm.keep g (by omega) (Array.getElem?_eq_some_iff.1 h3).1).trans h3, h4⟩)⟩
end Go.Proofs.Ytkfjojpohcieeaa
/- Walks: the harness' marks on rows of points, what they leave, and what 'held' says of it. -/



namespace Go.Proofs.Ytkfjojpohcieeaa
open Go.RowKit
attribute [local go_sem] BelowBy.cell BelowBy.cell_drew stillUpon givesUpon

set_option maxRecDepth 100000 in
set_option maxHeartbeats 2000000 in
theorem markPointS_zero (A : Option Addr) (c k : Nat) (w : World) :
    Calls Try.prog 12 #[.slice A 0 c, .int .i64 (k : Int)] w fun e w' => e = .returned (.int .i64 (k : Int)) ∧ w = w' := by
  go_enter Try.func12, Try.ntmps12
  go_wp2
  refine wp_loop_rounds 1 ?_
  rw [rounds_succ]
  go_wp2
  go_ret
  exact ⟨rfl, rfl⟩
set_option maxRecDepth 100000 in
set_option maxHeartbeats 2000000 in
theorem markPointS_core (g N n c k : Nat) (f0 : Nat → Value) (w : World) (hrow0 : w.rowIs g 52 N f0) (hN : n * 2 ≤ N) (hk : k + 2 * n ≤ 4611686018427387904) :
    Calls Try.prog 12 #[.slice (some ⟨g, 0, none⟩) n c, .int .i64 (k : Int)] w (MkCore 52 2 g N n k w (k + 2 * n)) := by
  have hg1 : g ≤ g := Nat.le_refl _
  have hg2 : g < g + 1 := Nat.lt_succ_self _
  go_enter Try.func12, Try.ntmps12
  go_wp2
  go_loopg [5, 1] n (fun r x kk wr => ∃ (i : Nat) (f : Nat → Value), i + r = n ∧ x = .int .i64 (i : Int) ∧ kk = .int .i64 ((k + 2 * i : Nat) : Int) ∧ wr.rowIs g 52 N f ∧ (∀ j, j < i * 2 → f j = .int .i64 ((k + j : Nat) : Int)) ∧ Mk g (g + 1) w wr)
  case atStart => exact ⟨0, f0, by omega, rfl, rfl, hrow0, fun j hj => by omega, Mk.refl _ _ _⟩
  case round =>
    obtain ⟨i, f, hi', rfl, rfl, hrow, hcont, hm⟩ := hrel
    have hcontH := Lib.hid hcont
    have hmH := Lib.hid hm
    clear hcont hm
    by_cases hlt : i < n
    · obtain ⟨j0, hj⟩ : ∃ j0, j0 = k + 2 * i := ⟨_, rfl⟩
      have hki : (0 : Int) ≤ (j0 : Int) := by omega
      have hki2 : (j0 : Int) + 2 < 4611686018427387910 := by omega
      have hjH := Lib.hid hj
      rw [← hj]
      clear hj
      have hc0 := hrow.cell (i := i * 2) (by omega)
      have hf0 := hrow.frozen (i * 2)
      have hc1 := hrow.cell (i := i * 2 + 1) (by omega)
      have hf1 := hrow.frozen (i * 2 + 1)
      have hrowH := Lib.hid hrow
      clear hrow
      go_wp2
      go_roundg (n - (i + 1))
      case measure => omega
      case rel => exact ⟨i + 1, _, by omega, by go_num, by (have := hjH.out; rw [show k + 2 * (i + 1) = j0 + 1 + 1 by omega]; go_num), ((hrowH.out.set (i * 2) _).set (i * 2 + 1) _), fun j hj => (by
        have hcont := hcontH.out
        have h0 := hjH.out
        rcases (show j < i * 2 ∨ j = i * 2 ∨ j = i * 2 + 1 by omega) with hjj | hjj | hjj
        · rw [if_neg (by omega), if_neg (by omega)]; exact hcont j hjj
        · rw [if_neg (by omega), if_pos (by omega)]; exact congrArg (Value.int IntKind.i64) (by have := hjH.out; omega)
        · rw [if_pos (by omega)]; exact congrArg (Value.int IntKind.i64) (by have := hjH.out; omega)), (((hmH.out).set (p := ⟨g, i * 2, none⟩) hg1 hg2 _).set (p := ⟨g, i * 2 + 1, none⟩) hg1 hg2 _)⟩
    · obtain rfl : i = n := by omega
      go_wp2
      go_ret
      exact ⟨rfl, hmH.out, f, hrow, hcontH.out⟩
theorem markPointS_c (A : Option Addr) (n c k lo hi : Nat) (w : World) (h : MkRow 52 2 lo hi w A n) (hh : hi ≤ w.heap.size) (hl : lo ≤ w.heap.size) (hk : k + 2 * n ≤ 4611686018427387904) :
    Calls Try.prog 12 #[.slice A n c, .int .i64 (k : Int)] w (MkResC 52 2 lo hi A n k w (k + 2 * n)) := by
  by_cases hn : n = 0
  · subst hn
    refine (markPointS_zero A c k w).mono ?_
    rintro e w' ⟨rfl, rfl⟩
    exact ⟨rfl, Mk.refl _ _ _, fun h => by omega⟩
  · obtain ⟨g, N, f0, rfl, hg1, hg2, hrow0, hN⟩ := h (by omega)
    refine (markPointS_core g N n c k f0 w hrow0 hN hk).mono ?_
    rintro e w' ⟨he, hm, f, hrow, hcont⟩
    exact ⟨he, hm.weaken hg1 (by omega), fun _ => ⟨g, N, f, rfl, hg1, hg2, hrow, hN, hcont⟩⟩
theorem markPointS_any (A : Option Addr) (n c k lo hi : Nat) (w : World) (h : MkRow 52 2 lo hi w A n) (hh : hi ≤ w.heap.size) (hl : lo ≤ w.heap.size) (hk : k + 2 * n ≤ 4611686018427387904) :
    Calls Try.prog 12 #[.slice A n c, .int .i64 (k : Int)] w (MkRes lo hi w (k + 2 * n)) :=
  (markPointS_c A n c k lo hi w h hh hl hk).mono fun _ _ h => ⟨h.1, h.2.1⟩

theorem markPointS_any2 (A : Option Addr) (n c k lo hi : Nat) (w : World) (h : MkRow 52 2 lo hi w A n) (hh : hi ≤ w.heap.size) (hl : lo ≤ w.heap.size) (hk : k + 2 * n ≤ 4611686018427387904) :
    Calls Try.prog 12 #[.slice A n c, .int .i64 (k : Int)] w (MkRes2 lo hi w k (k + 2 * n)) :=
  (markPointS_any A n c k lo hi w h hh hl hk).mono fun _ _ h => ⟨_, h.1, by omega, Nat.le_refl _, h.2⟩
theorem rdPts {W : World} {base : Nat} {A : Option Addr} {n c : Nat} {bs : List Pt} (h : W.ownsRow base 52 2 (.slice A n c) n (ptCells bs)) (hn : n = bs.length := by rfl) : RdSl 2 RPt W A n bs := by
  subst hn
  obtain ⟨A', cap, e, h'⟩ := rdPt_of_row h
  injection e with e1 e2 e3
  subst e1
  exact h'
set_option maxRecDepth 100000 in
set_option maxHeartbeats 2000000 in
theorem heldPointS_any (A : Option Addr) (n c k lo hi : Nat) (w : World) (h : Marked 52 2 lo hi w A n k) (hk : k + 2 * n ≤ 4611686018427387904) :
    Calls Try.prog 24 #[.slice A n c, .int .i64 (k : Int)] w fun e w' => e = .returned (.int .i64 ((k + 2 * n : Nat) : Int)) ∧ w = w' := by
  go_enter Try.func24, Try.ntmps24
  go_wp2
  go_loopg [5, 1] n (fun r x kk wr => ∃ i : Nat, i + r = n ∧ x = .int .i64 (i : Int) ∧ kk = .int .i64 ((k + 2 * i : Nat) : Int) ∧ w = wr)
  case atStart => exact ⟨0, by omega, rfl, rfl, rfl⟩
  case round =>
    obtain ⟨i, hi', rfl, rfl, rfl⟩ := hrel
    by_cases hlt : i < n
    · obtain ⟨j0, hj⟩ : ∃ j0, j0 = k + 2 * i := ⟨_, rfl⟩
      have hki : (0 : Int) ≤ (j0 : Int) := by omega
      have hki2 : (j0 : Int) + 2 < 4611686018427387910 := by omega
      have hjH := Lib.hid hj
      rw [← hj]
      obtain ⟨g, N, f, rfl, hg1, hg2, hrow, hN, hcont⟩ := h (by omega)
      have hc0 := hrow.cell (i := i * 2) (by omega)
      rw [hcont (i * 2) (by omega), show ((k + (i * 2) : Nat) : Int) = (j0 : Int) by omega] at hc0
      have hc1 := hrow.cell (i := i * 2 + 1) (by omega)
      rw [hcont (i * 2 + 1) (by omega), show ((k + (i * 2 + 1) : Nat) : Int) = (j0 : Int) + 1 by omega] at hc1
      clear hj hrow hcont h
      go_wp2
      go_roundg (n - (i + 1))
      case measure => omega
      case rel => exact ⟨i + 1, by omega, by go_num, by (have := hjH.out; rw [show k + 2 * (i + 1) = j0 + 1 + 1 by omega]; go_num), rfl⟩
    · obtain rfl : i = n := by omega
      go_wp2
      go_ret
      exact ⟨rfl, rfl⟩
end Go.Proofs.Ytkfjojpohcieeaa
/- Rows of rows: how they read, and the harness' marks on them. -/


namespace Go.Proofs.Ytkfjojpohcieeaa
open Go.RowKit
/-- an element that is a slice, which reads as xs -/
def RRow {α : Type} (size : Nat) (R : World → Nat → Nat → α → Prop) (w : World) (b o : Nat) (xs : List α) : Prop := ∃ A n c, w.cell? ⟨b, o, none⟩ = some (.slice A n c) ∧ RdSl size R w A n xs
theorem RRow.stable {α : Type} {size : Nat} {R : World → Nat → Nat → α → Prop} (hR : Stable R) : Stable (RRow size R) := fun _ _ _ _ _ ⟨A, n, c, h1, h2⟩ hb hw => ⟨A, n, c, (hw.cell (by exact hb)).trans h1, h2.below hR hw⟩
theorem sum_take_succ : ∀ (ns : List Nat) (i n : Nat), ns[i]? = some n → (ns.take (i + 1)).sum = (ns.take i).sum + n
  | [], i, n, h => by simp at h
  | a :: ns, 0, n, h => by
    simp at h
    subst h
    simp
  | a :: ns, i + 1, n, h => by
    have := sum_take_succ ns i n (by simpa using h)
    simp only [List.take_succ_cons, List.sum_cons]
    omega
theorem sum_take_le : ∀ (ns : List Nat) (i : Nat), (ns.take i).sum ≤ ns.sum
  | [], i => by simp
  | a :: ns, 0 => by simp
  | a :: ns, i + 1 => by
    have := sum_take_le ns i
    simp only [List.take_succ_cons, List.sum_cons]
    omega
theorem sum_le_mul : ∀ (ns : List Nat) (m : Nat), (∀ n ∈ ns, n ≤ m) → ns.sum ≤ ns.length * m
  | [], m, _ => by simp
  | a :: ns, m, h => by
    have h1 := sum_le_mul ns m (fun n hn => h n (List.mem_cons_of_mem _ hn))
    have h2 := h a (List.mem_cons_self ..)
    simp only [List.sum_cons, List.length_cons, Nat.add_mul, Nat.one_mul]
    omega
/-- rows of rows of the call's own, no two in one block: what the cells hold is left open -/
structure NRows (T size lo hi : Nat) (w : World) (A : Option Addr) (us : List Value) (ns : List Nat) : Prop where
  len : us.length = ns.length
  outer : 0 < us.length → ∃ g, A = some ⟨g, 0, none⟩ ∧ lo ≤ g ∧ g < hi ∧ g < w.heap.size ∧ ∀ (j : Nat) (u : Value), us[j]? = some u → w.cell? ⟨g, j, none⟩ = some u
  rows : ∀ (j : Nat) (u : Value) (n : Nat), us[j]? = some u → ns[j]? = some n → ∃ A' c, u = .slice A' n c ∧ MkRow T size lo hi w A' n
  apart : ∀ (j k : Nat) (u u' : Value) (g : Nat), us[j]? = some u → us[k]? = some u' → u.ownBlock = some g → u'.ownBlock = some g → j = k
  off : ∀ (k : Nat) (u : Value) (g g' : Nat), us[k]? = some u → u.ownBlock = some g → A = some ⟨g', 0, none⟩ → g ≠ g'
theorem NRows.of {w : World} {base TT T size n c : Nat} {A : Option Addr} {us : List Value} {rows : List (List Value)} {ns : List Nat} (h : Own2 w base TT T size (.slice A n c) us rows) (hs : 0 < size) (hl : ns.length = rows.length)
    (hr : ∀ (j : Nat) (r : List Value) (m : Nat), rows[j]? = some r → ns[j]? = some m → r.length = m * size) : NRows T size base w.heap.size w A us ns := by
  refine ⟨by rw [h.len, hl], fun hp => ?_, fun j u m hu hm => ?_, h.apart, fun k u g g' hu hb e hg => ?_⟩
  · obtain ⟨g, cap, hv⟩ := h.formPos rfl hp
    injection hv with h1 h2 h3
    subst h1 h2 h3
    obtain ⟨hl1, hl2⟩ := h.lt g rfl
    exact ⟨g, rfl, hl1, hl2, hl2, fun j u hu => (h.cellAt rfl hu).1⟩
  · obtain ⟨m', r, hr', hown⟩ := h.get hu
    have h1 := hr j r m hr' hm
    have h2 := hown.1
    rw [h1] at h2
    obtain rfl : m = m' := Nat.eq_of_mul_eq_mul_right hs h2
    obtain ⟨A', c', rfl⟩ := ownsRow_form hown
    exact ⟨A', c', rfl, mkRow_of_owns hown⟩
  · refine h.off k u g hu hb ?_
    rw [e]
    subst hg
    rfl
theorem NRows.keep {T size lo hi : Nat} {w w' : World} {A : Option Addr} {us : List Value} {ns : List Nat} (h : NRows T size lo hi w A us ns) (hs : w.heap.size ≤ w'.heap.size) (hk : ∀ k, lo ≤ k → k < hi → w'.heap[k]? = w.heap[k]?) : NRows T size lo hi w' A us ns := by
  refine ⟨h.len, fun hp => ?_, fun j u m hu hm => ?_, h.apart, h.off⟩
  · obtain ⟨g, h1, h2, h3, h4, h5⟩ := h.outer hp
    exact ⟨g, h1, h2, h3, by omega, fun j u hu => (World.cell?_of_block (w := w) (a := ⟨g, j, none⟩) (hk g h2 h3)).trans (h5 j u hu)⟩
  · obtain ⟨A', c', h1, h2⟩ := h.rows j u m hu hm
    exact ⟨A', c', h1, h2.keep hk⟩
theorem NRows.below {T size lo hi : Nat} {w w' : World} {A : Option Addr} {us : List Value} {ns : List Nat} (h : NRows T size lo hi w A us ns) (hb : Below w.heap.size w w') (hh : hi ≤ w.heap.size) : NRows T size lo hi w' A us ns := h.keep hb.size fun k _ h2 => hb.block k (by omega)
theorem NRows.mkd {T size lo hi lo' hi' : Nat} {w w' : World} {A : Option Addr} {us : List Value} {ns : List Nat} (h : NRows T size lo hi w A us ns) (hb : Mk lo' hi' w w') (h1 : hi' ≤ lo) (hh : hi ≤ w.heap.size) : NRows T size lo hi w' A us ns := h.keep hb.size fun k h2 h3 => hb.keep k (by omega) (by omega)
/-- the rows before row i bear their marks -/
def NMarked (T size lo hi : Nat) (w : World) (us : List Value) (ns : List Nat) (k i : Nat) : Prop := ∀ (j : Nat) (u : Value) (n : Nat), j < i → us[j]? = some u → ns[j]? = some n → ∃ A' c, u = .slice A' n c ∧ Marked T size lo hi w A' n (k + size * (ns.take j).sum)
theorem NMarked.zero (T size lo hi : Nat) (w : World) (us : List Value) (ns : List Nat) (k : Nat) : NMarked T size lo hi w us ns k 0 := fun j u n h => by omega
/-- one row gets its marks -/
theorem NRows.marked {T size lo hi k i n c g : Nat} {w w' : World} {A : Option Addr} {us : List Value} {ns : List Nat} (h : NRows T size lo hi w A us ns) (hm : NMarked T size lo hi w us ns k i) (hu : us[i]? = some (.slice (some ⟨g, 0, none⟩) n c)) (hn : ns[i]? = some n) (hk : Mk g (g + 1) w w')
    (hr : Marked T size lo hi w' (some ⟨g, 0, none⟩) n (k + size * (ns.take i).sum)) (hrow : MkRow T size lo hi w' (some ⟨g, 0, none⟩) n) : NRows T size lo hi w' A us ns ∧ NMarked T size lo hi w' us ns k (i + 1) := by
  have hb : ∀ b, b ≠ g → b < w.heap.size → w'.heap[b]? = w.heap[b]? := fun b hb hlt => by
    rcases Nat.lt_or_ge b g with h1 | h1
    · exact hk.below.block b h1
    · exact hk.keep b (by omega) hlt
  refine ⟨⟨h.len, fun hp => ?_, fun j u m hu' hm' => ?_, h.apart, h.off⟩, fun j u m hj hu' hm' => ?_⟩
  · obtain ⟨g', h1, h2, h3, h4, h5⟩ := h.outer hp
    have hne : g' ≠ g := fun e => h.off i _ g g' hu rfl h1 e.symm
    exact ⟨g', h1, h2, h3, Nat.lt_of_lt_of_le h4 hk.size, fun j u hj => (World.cell?_of_block (w := w) (a := ⟨g', j, none⟩) (hb g' hne h4)).trans (h5 j u hj)⟩
  · by_cases e : j = i
    · subst e
      rw [hu] at hu'
      rw [hn] at hm'
      obtain rfl := Option.some.inj hu'
      obtain rfl := Option.some.inj hm'
      exact ⟨_, c, rfl, hrow⟩
    · obtain ⟨A', c', rfl, h2⟩ := h.rows j u m hu' hm'
      refine ⟨A', c', rfl, fun h0 => ?_⟩
      obtain ⟨b, N, f, rfl, b2, b3, b4, b5⟩ := h2 h0
      have hne : b ≠ g := fun e' => e (h.apart j i _ _ b hu' hu rfl (by rw [e']; rfl))
      exact ⟨b, N, f, rfl, b2, b3, b4.of_block (hb b hne b4.lt), b5⟩
  · by_cases e : j = i
    · subst e
      rw [hu] at hu'
      rw [hn] at hm'
      obtain rfl := Option.some.inj hu'
      obtain rfl := Option.some.inj hm'
      exact ⟨_, c, rfl, hr⟩
    · obtain ⟨A', c', rfl, h2⟩ := hm j u m (by omega) hu' hm'
      refine ⟨A', c', rfl, fun h0 => ?_⟩
      obtain ⟨b, N, f, rfl, b2, b3, b4, b5, b6⟩ := h2 h0
      have hne : b ≠ g := fun e' => e (h.apart j i _ _ b hu' hu rfl (by rw [e']; rfl))
      exact ⟨b, N, f, rfl, b2, b3, b4.of_block (hb b hne b4.lt), b5, b6⟩
theorem NMarked.empty {T size lo hi k i c : Nat} {w : World} {us : List Value} {ns : List Nat} {A' : Option Addr} (hm : NMarked T size lo hi w us ns k i) (hu : us[i]? = some (.slice A' 0 c)) (hn : ns[i]? = some 0) : NMarked T size lo hi w us ns k (i + 1) := fun j u m hj hu' hm' => by
  by_cases e : j = i
  · subst e
    rw [hu] at hu'
    rw [hn] at hm'
    obtain rfl := Option.some.inj hu'
    obtain rfl := Option.some.inj hm'
    exact ⟨_, c, rfl, fun h => by omega⟩
  · exact hm j u m (by omega) hu' hm'
/-- all rows bear their marks -/
structure Marked2 (T size lo hi : Nat) (w : World) (A : Option Addr) (us : List Value) (ns : List Nat) (k : Nat) : Prop where
  rows : NRows T size lo hi w A us ns
  marks : NMarked T size lo hi w us ns k us.length
theorem Marked2.keep {T size lo hi k : Nat} {w w' : World} {A : Option Addr} {us : List Value} {ns : List Nat} (h : Marked2 T size lo hi w A us ns k) (hs : w.heap.size ≤ w'.heap.size) (hk : ∀ k, lo ≤ k → k < hi → w'.heap[k]? = w.heap[k]?) : Marked2 T size lo hi w' A us ns k :=
  ⟨h.rows.keep hs hk, fun j u n hj hu hn => by
    obtain ⟨A', c, h1, h2⟩ := h.marks j u n hj hu hn
    exact ⟨A', c, h1, h2.keep hk⟩⟩
theorem Marked2.below {T size lo hi k : Nat} {w w' : World} {A : Option Addr} {us : List Value} {ns : List Nat} (h : Marked2 T size lo hi w A us ns k) (hb : Below w.heap.size w w') (hh : hi ≤ w.heap.size) : Marked2 T size lo hi w' A us ns k := h.keep hb.size fun k _ h2 => hb.block k (by omega)
def MkResN (T size lo hi : Nat) (A : Option Addr) (us : List Value) (ns : List Nat) (k : Nat) (w : World) (e : Ending) (w' : World) : Prop := e = .returned (.int .i64 ((k + size * ns.sum : Nat) : Int)) ∧ Mk lo hi w w' ∧ Marked2 T size lo hi w' A us ns k
theorem Own2.mkd {w w' : World} {base lo hi T E size : Nat} {v : Value} {us : List Value} {rows : List (List Value)} (h : Own2 w base T E size v us rows) (hm : Mk lo hi w w') (hl : hi ≤ base) : Own2 w' base T E size v us rows := by
  have hd : ∀ {e s x n xs}, w.ownsRow base e s x n xs → w'.ownsRow base e s x n xs := fun h => ⟨h.1, h.2.imp id (fun ⟨g, cap, cur, h1, h2, h3, h4⟩ => ⟨g, cap, cur, h1, h2, (hm.keep g (by omega) (Array.getElem?_eq_some_iff.1 h3).1).trans h3, h4⟩)⟩
  exact ⟨hd h.outer, h.len, fun k u r hu hr => (h.inner k u r hu hr).imp fun n hn => hd hn, h.apart, h.off⟩
/-- how they read -/
theorem Own2.rd {α : Type} {size : Nat} {R : World → Nat → Nat → α → Prop} {w : World} {base TT T n c : Nat} {A : Option Addr} {us : List Value} {cells : List α → List Value} {xss : List (List α)} (h : Own2 w base TT T size (.slice A n c) us (xss.map cells)) (hn : n = xss.length)
    (hrd : ∀ (u : Value) (m : Nat) (xs : List α), xs ∈ xss → w.ownsRow base T size u m (cells xs) → ∃ A' n' c', u = .slice A' n' c' ∧ RdSl size R w A' n' xs) : RdSl 1 (RRow size R) w A n xss := by
  have hul : us.length = n := by rw [h.len, hn]; simp
  refine ⟨hn.symm, fun hp => ?_⟩
  obtain ⟨g, cap, hv⟩ := h.formPos hul hp
  injection hv with h1 h2 h3
  subst h1 h3
  refine ⟨g, 0, rfl, (h.lt g rfl).2, fun k hk => ?_⟩
  obtain ⟨u, hu⟩ : ∃ u, us[k]? = some u := ⟨_, List.getElem?_eq_getElem (by omega)⟩
  obtain ⟨m, r, hr, hown⟩ := h.get hu
  rw [List.getElem?_map, List.getElem?_eq_getElem hk] at hr
  simp only [Option.map_some, Option.some.injEq] at hr
  subst hr
  obtain ⟨A', n', c', rfl, hr'⟩ := hrd u m _ (List.getElem_mem hk) hown
  refine ⟨A', n', c', ?_, hr'⟩
  have hc := (h.cellAt hul hu).1
  rwa [show (0 : Nat) + k * 1 = k by omega]
end Go.Proofs.Ytkfjojpohcieeaa
/- Walks: the harness' comparisons, where both sides read as the same list. -/


namespace Go.Proofs.Ytkfjojpohcieeaa
open Go.RowKit
attribute [local go_sem] BelowBy.cell BelowBy.cell_drew stillUpon givesUpon

theorem eqPoint_same (x y : Int) (w : World) :
    Calls Try.prog 30 #[.agg #[.int .i64 x, .int .i64 y], .agg #[.int .i64 x, .int .i64 y]] w fun e w' => e = .returned (.bool true) ∧ Below w.heap.size w w' := by
  go_enter Try.func30, Try.ntmps30
  go_wp2
  go_ret
  exact ⟨rfl, bl_al (bl_al (bl_refl _) _) _⟩
theorem eqPlaced_same (x y t : Int) (w : World) :
    Calls Try.prog 66 #[.agg #[.int .i64 x, .int .i64 y, .int .i64 t], .agg #[.int .i64 x, .int .i64 y, .int .i64 t]] w fun e w' => e = .returned (.bool true) ∧ Below w.heap.size w w' := by
  
  go_enter Try.func66, Try.ntmps66
  go_wp2_with (go_at_call 30; refine (eqPoint_same _ _ _).mono ?_; rintro e w1 ⟨rfl, hb1⟩; obtain ⟨chb1, fhb1, shb1, thb1⟩ := bcell hb1; (try have bhb10 := shb1 (w.heap.size) (by go_simp)); (try have bhb11 := shb1 (w.heap.size + 1) (by go_simp)))
  go_ret
  refine ⟨rfl, ?_⟩
  exact bel_

set_option maxHeartbeats 1000000 in
theorem eqPlacedS_same (A B : Option Addr) (n c d : Nat) (xs : List Pl) (w : World) (h1 : RdSl 3 RPl w A n xs) (h2 : RdSl 3 RPl w B n xs) (hn : n ≤ 1073741824) :
    Calls Try.prog 37 #[.slice A n c, .slice B n d] w fun e w' => e = .returned (.bool true) ∧ Below w.heap.size w w' := by
  
  go_enter Try.func37, Try.ntmps37
  go_wp2
  go_loopg [5] n (fun g i wr => ∃ k : Nat, k + g = n ∧ i = .int .i64 k ∧ Below w.heap.size w wr)
  case atStart => exact ⟨0, by omega, rfl, Below.refl _ _⟩
  case round =>
    obtain ⟨k, hk, rfl, hbw⟩ := hrel
    have r1 := h1.below RPl.stable hbw
    have r2 := h2.below RPl.stable hbw
    by_cases hlt : k < n
    · obtain ⟨b, o, rfl, hb, hc⟩ := r1.ptr (by omega)
      obtain ⟨b2, o2, rfl, hb2, hc2⟩ := r2.ptr (by omega)
      obtain ⟨e, he⟩ := h1.get hlt
      obtain ⟨c1, c1b, c1c⟩ := hc k e he
      obtain ⟨c2, c2b, c2c⟩ := hc2 k e he
      clear hc hc2 he r1 r2
      go_wp2
      refine wp_region_ord [(0, .q), (1, .q), (2, .q), (3, .q), (4, .q), (5, .q), (6, .q), (7, .q), (8, .g), (9, .q)] (by kernel_rfl) (by kernel_rfl) ?_
      simp only [pick, List.filterMap_cons, List.filterMap_nil, List.getElem?_toArray, List.getElem?_cons_zero, List.getElem?_cons_succ, Option.map_some]
      repeat (first
        | ((with_reducible refine wpD_p (fun K hK => ?_)); go_simp; refine hK _ ?_; clear hK K)
        | ((with_reducible refine wpD_q (fun K hK => ?_)); go_simp; (first | refine hK _ ?_ | (go_bits; refine hK _ ?_) | (go_bits; go_simp; refine hK _ ?_)); clear hK K)
        | ((with_reducible refine wpD_g (fun K hK => ?_)); go_simp; refine hK _ _ ?_; clear hK K)
        | ((with_reducible refine wpD_g (fun K hK => ?_)); go_simp; refine ⟨Grew.of_alloc _, hK _ _ ?_⟩; clear hK K)
        | ((with_reducible refine wpD_g (fun K hK => ?_)); go_simp; go_at_call 66; refine (eqPlaced_same _ _ _ _).mono ?_; rintro e w1 ⟨rfl, hb1⟩; refine ⟨_, rfl, hb1, hK _ _ ?_⟩; clear hK K; obtain ⟨chb1, fhb1, shb1, thb1⟩ := bcell hb1; (try have bhb10 := shb1 (b) (by go_simp)); (try have bhb11 := shb1 (b2) (by go_simp))))
      with_reducible refine wpD_nil ?_
      go_wp2
      go_roundg (n - (k + 1))
      case measure => omega
      case rel => exact ⟨k + 1, by omega, by go_num, (by exact bel_)⟩
    · obtain rfl : k = n := by omega
      go_wp2
      go_ret
      exact ⟨rfl, hbw⟩

theorem eqAssembly_same (A B : Option Addr) (n c d : Nat) (xs : List Pl) (w : World) (h1 : RdSl 3 RPl w A n xs) (h2 : RdSl 3 RPl w B n xs) (hn : n ≤ 1073741824) :
    Calls Try.prog 19 #[.agg #[.slice A n c], .agg #[.slice B n d]] w fun e w' => e = .returned (.bool true) ∧ Below w.heap.size w w' := by
  have hb0 : ∀ o1 o2, Below w.heap.size w ((w.alloc o1).alloc o2) := fun o1 o2 => bl_al (bl_al (bl_refl _) _) _
  
  go_enter Try.func19, Try.ntmps19
  go_wp2_with (go_at_call 37; refine (eqPlacedS_same _ _ _ _ _ xs _ (h1.below RPl.stable (hb0 _ _)) (h2.below RPl.stable (hb0 _ _)) hn).mono ?_; rintro e w1 ⟨rfl, hb1⟩; obtain ⟨chb1, fhb1, shb1, thb1⟩ := bcell hb1; (try have bhb10 := shb1 (w.heap.size) (by go_simp)); (try have bhb11 := shb1 (w.heap.size + 1) (by go_simp)))
  go_ret
  refine ⟨rfl, ?_⟩
  exact bel_
end Go.Proofs.Ytkfjojpohcieeaa
/- Walk: the harness' comparison of rows of points. -/


namespace Go.Proofs.Ytkfjojpohcieeaa
open Go.RowKit
attribute [local go_sem] BelowBy.cell BelowBy.cell_drew stillUpon givesUpon

set_option maxHeartbeats 1000000 in
theorem eqPointS_same (A B : Option Addr) (n c d : Nat) (xs : List Pt) (w : World) (h1 : RdSl 2 RPt w A n xs) (h2 : RdSl 2 RPt w B n xs) (hn : n ≤ 1073741824) :
    Calls Try.prog 11 #[.slice A n c, .slice B n d] w fun e w' => e = .returned (.bool true) ∧ Below w.heap.size w w' := by
  
  go_enter Try.func11, Try.ntmps11
  go_wp2
  go_loopg [5] n (fun g i wr => ∃ k : Nat, k + g = n ∧ i = .int .i64 k ∧ Below w.heap.size w wr)
  case atStart => exact ⟨0, by omega, rfl, Below.refl _ _⟩
  case round =>
    obtain ⟨k, hk, rfl, hbw⟩ := hrel
    have r1 := h1.below RPt.stable hbw
    have r2 := h2.below RPt.stable hbw
    by_cases hlt : k < n
    · obtain ⟨b, o, rfl, hb, hc⟩ := r1.ptr (by omega)
      obtain ⟨b2, o2, rfl, hb2, hc2⟩ := r2.ptr (by omega)
      obtain ⟨e, he⟩ := h1.get hlt
      obtain ⟨c1, c1b⟩ := hc k e he
      obtain ⟨c2, c2b⟩ := hc2 k e he
      clear hc hc2 he r1 r2
      go_wp2
      refine wp_region_ord [(0, .q), (1, .q), (2, .q), (3, .q), (4, .q), (5, .q), (6, .q), (7, .q), (8, .g), (9, .q)] (by kernel_rfl) (by kernel_rfl) ?_
      simp only [pick, List.filterMap_cons, List.filterMap_nil, List.getElem?_toArray, List.getElem?_cons_zero, List.getElem?_cons_succ, Option.map_some]
      repeat (first
        | ((with_reducible refine wpD_p (fun K hK => ?_)); go_simp; refine hK _ ?_; clear hK K)
        | ((with_reducible refine wpD_q (fun K hK => ?_)); go_simp; (first | refine hK _ ?_ | (go_bits; refine hK _ ?_) | (go_bits; go_simp; refine hK _ ?_)); clear hK K)
        | ((with_reducible refine wpD_g (fun K hK => ?_)); go_simp; refine hK _ _ ?_; clear hK K)
        | ((with_reducible refine wpD_g (fun K hK => ?_)); go_simp; refine ⟨Grew.of_alloc _, hK _ _ ?_⟩; clear hK K)
        | ((with_reducible refine wpD_g (fun K hK => ?_)); go_simp; go_at_call 30; refine (eqPoint_same _ _ _).mono ?_; rintro e w1 ⟨rfl, hb1⟩; refine ⟨_, rfl, hb1, hK _ _ ?_⟩; clear hK K; obtain ⟨chb1, fhb1, shb1, thb1⟩ := bcell hb1; (try have bhb10 := shb1 (b) (by go_simp)); (try have bhb11 := shb1 (b2) (by go_simp))))
      with_reducible refine wpD_nil ?_
      go_wp2
      go_roundg (n - (k + 1))
      case measure => omega
      case rel => exact ⟨k + 1, by omega, by go_num, (by exact bel_)⟩
    · obtain rfl : k = n := by omega
      go_wp2
      go_ret
      exact ⟨rfl, hbw⟩
end Go.Proofs.Ytkfjojpohcieeaa
/- Walks: the harness on rows of rows of points: it compares them and marks them. -/



namespace Go.Proofs.Ytkfjojpohcieeaa
open Go.RowKit
attribute [local go_sem] BelowBy.cell BelowBy.cell_drew stillUpon givesUpon

set_option maxRecDepth 100000 in
set_option maxHeartbeats 1000000 in
theorem eqPointSS_same (A B : Option Addr) (n c d : Nat) (xss : List (List Pt)) (w : World) (h1 : RdSl 1 (RRow 2 RPt) w A n xss) (h2 : RdSl 1 (RRow 2 RPt) w B n xss) (hn : n ≤ 1073741824) (hx : ∀ e ∈ xss, e.length ≤ 1073741824) :
    Calls Try.prog 10 #[.slice A n c, .slice B n d] w fun e w' => e = .returned (.bool true) ∧ Below w.heap.size w w' := by
  
  go_enter Try.func10, Try.ntmps10
  go_wp2
  go_loopg [5] n (fun g i wr => ∃ k : Nat, k + g = n ∧ i = .int .i64 k ∧ Below w.heap.size w wr)
  case atStart => exact ⟨0, by omega, rfl, Below.refl _ _⟩
  case round =>
    obtain ⟨k, hk, rfl, hbw⟩ := hrel
    have r1 := h1.below (RRow.stable RPt.stable) hbw
    have r2 := h2.below (RRow.stable RPt.stable) hbw
    by_cases hlt : k < n
    · obtain ⟨b, o, rfl, hb, hc⟩ := r1.ptr (by omega)
      obtain ⟨b2, o2, rfl, hb2, hc2⟩ := r2.ptr (by omega)
      obtain ⟨e, he⟩ := h1.get hlt
      obtain ⟨A1, n1, d1, c1b, hs1⟩ := hc k e he
      obtain ⟨A2, n2, d2, c2b, hs2⟩ := hc2 k e he
      obtain rfl : n1 = n2 := hs1.len.symm.trans hs2.len
      have hm : n1 ≤ 1073741824 := by rw [← hs1.len]; exact hx e (List.mem_of_getElem? he)
      simp only [Nat.mul_one] at c1b c2b
      have hs1H := Lib.hid hs1
      have hs2H := Lib.hid hs2
      clear hc hc2 he r1 r2 hs1 hs2
      go_wp2
      refine wp_region_ord [(0, .q), (1, .q), (2, .q), (3, .q), (4, .q), (5, .q), (6, .q), (7, .q), (8, .g), (9, .q)] (by kernel_rfl) (by kernel_rfl) ?_
      simp only [pick, List.filterMap_cons, List.filterMap_nil, List.getElem?_toArray, List.getElem?_cons_zero, List.getElem?_cons_succ, Option.map_some]
      repeat (first
        | ((with_reducible refine wpD_p (fun K hK => ?_)); go_simp; refine hK _ ?_; clear hK K)
        | ((with_reducible refine wpD_q (fun K hK => ?_)); go_simp; (first | refine hK _ ?_ | (go_bits; refine hK _ ?_) | (go_bits; go_simp; refine hK _ ?_)); clear hK K)
        | ((with_reducible refine wpD_g (fun K hK => ?_)); go_simp; refine hK _ _ ?_; clear hK K)
        | ((with_reducible refine wpD_g (fun K hK => ?_)); go_simp; refine ⟨Grew.of_alloc _, hK _ _ ?_⟩; clear hK K)
        | ((with_reducible refine wpD_g (fun K hK => ?_)); go_simp; go_at_call 11; refine (eqPointS_same A1 A2 n1 d1 d2 e _ (hs1H.out.below RPt.stable (by exact bel_)) (hs2H.out.below RPt.stable (by exact bel_)) hm).mono ?_; rintro e w1 ⟨rfl, hb1⟩; refine ⟨_, rfl, hb1, hK _ _ ?_⟩; clear hK K; obtain ⟨chb1, fhb1, shb1, thb1⟩ := bcell hb1; (try have bhb10 := shb1 (b) (by go_simp)); (try have bhb11 := shb1 (b2) (by go_simp))))
      with_reducible refine wpD_nil ?_
      go_wp2
      go_roundg (n - (k + 1))
      case measure => omega
      case rel => exact ⟨k + 1, by omega, by go_num, (by exact bel_)⟩
    · obtain rfl : k = n := by omega
      go_wp2
      go_ret
      exact ⟨rfl, hbw⟩
set_option maxRecDepth 100000 in
set_option maxHeartbeats 1000000 in
theorem markPointSS_c (A : Option Addr) (N c k lo hi : Nat) (us : List Value) (ns : List Nat) (w : World) (hN : us.length = N) (h : NRows 52 2 lo hi w A us ns) (hl : lo ≤ w.heap.size) (hh : hi ≤ w.heap.size) (hk : k + 2 * ns.sum ≤ 4611686018427387904) (hu : N ≤ 1073741824) :
    Calls Try.prog 13 #[.slice A N c, .int .i64 (k : Int)] w (MkResN 52 2 lo hi A us ns k w) := by
  have hNH := Lib.hid hN
  clear hN
  go_enter Try.func13, Try.ntmps13
  go_wp2
  go_loopg [5, 1] N (fun r x kk wr => ∃ i : Nat, i + r = N ∧ x = .int .i64 (i : Int) ∧ kk = .int .i64 ((k + 2 * (ns.take i).sum : Nat) : Int) ∧ Hid (NRows 52 2 lo hi wr A us ns) ∧ Hid (NMarked 52 2 lo hi wr us ns k i) ∧ Hid (Mk lo hi w wr))
  case atStart => exact ⟨0, by omega, rfl, by simp, Lib.hid h, Lib.hid (NMarked.zero _ _ _ _ _ _ _ _), Lib.hid (Mk.refl _ _ _)⟩
  case round =>
    obtain ⟨i, hi', rfl, rfl, hr, hm, hmk⟩ := hrel
    have hle := sum_take_le ns i
    obtain ⟨j0, hj⟩ : ∃ j0, k + 2 * (ns.take i).sum = j0 := ⟨_, rfl⟩
    rw [hj]
    have hjH := Lib.hid hj
    have hj0 : j0 ≤ 4611686018427387904 := by omega
    clear hj
    by_cases hlt : i < N
    · obtain ⟨g, rfl, hg1, hg2, hg3, hgc⟩ := hr.out.outer (by rw [hNH.out]; omega)
      obtain ⟨u, huu⟩ : ∃ u, us[i]? = some u := ⟨_, List.getElem?_eq_getElem (by rw [hNH.out]; exact hlt)⟩
      obtain ⟨n, hn⟩ : ∃ n, ns[i]? = some n := ⟨_, List.getElem?_eq_getElem (by rw [← hr.out.len, hNH.out]; exact hlt)⟩
      obtain ⟨A', c', rfl, hrow⟩ := hr.out.rows i u n huu hn
      have hc0 := hgc i _ huu
      have hsu := sum_take_succ ns i n hn
      have hle2 := sum_take_le ns (i + 1)
      have hj2 : j0 + 2 * n ≤ 4611686018427387904 := by have := hjH.out; omega
      have hnH := Lib.hid hn
      have huH := Lib.hid huu
      have hsuH := Lib.hid (show k + 2 * (ns.take (i + 1)).sum = j0 + 2 * n by have := hjH.out; omega)
      clear hgc hn huu hsu hle hle2
      by_cases h0 : n = 0
      · subst h0
        have hempty := Lib.hid (hm.out.empty huH.out hnH.out)
        go_wp2_with (refine (markPointS_zero A' c' j0 _).mono ?_; rintro e w' ⟨rfl, rfl⟩)
        go_roundg (N - (i + 1))
        case measure => omega
        case rel => exact ⟨i + 1, by omega, by go_num, by rw [hsuH.out, Nat.mul_zero, Nat.add_zero], hr, hempty, hmk⟩
      · obtain ⟨b, M, f0, rfl, b2, b3, b4, b5⟩ := hrow (by omega)
        have b4H := Lib.hid b4
        clear hrow b4
        go_wp2_with (refine (markPointS_core b M n c' j0 f0 _ b4H.out b5 hj2).mono ?_; rintro e w' ⟨rfl, hmw, f, hrow', hcont⟩; have hmwH := Lib.hid hmw; have hrowH := Lib.hid hrow'; have hcontH := Lib.hid hcont; clear hmw hrow' hcont)
        have hst := hr.out.marked hm.out huH.out hnH.out hmwH.out (fun _ => ⟨b, M, f, rfl, b2, b3, hrowH.out, b5, by rw [hjH.out]; exact hcontH.out⟩) (fun _ => ⟨b, M, f, rfl, b2, b3, hrowH.out, b5⟩)
        have hstH := Lib.hid hst
        clear hst
        go_roundg (N - (i + 1))
        case measure => omega
        case rel => exact ⟨i + 1, by omega, by go_num, by rw [hsuH.out]; go_num, Lib.hid hstH.out.1, Lib.hid hstH.out.2, Lib.hid (hmk.out.trans (hmwH.out.weaken b2 (by omega)))⟩
    · obtain rfl : i = N := by omega
      go_wp2
      go_ret
      have hall : ns.take i = ns := List.take_of_length_le (by rw [← hr.out.len, hNH.out]; exact Nat.le_refl _)
      exact ⟨ret_int (show (j0 : Int) = ((k + 2 * ns.sum : Nat) : Int) by rw [← hjH.out, hall]), hmk.out, hr.out, by rw [hNH.out]; exact hm.out⟩
set_option maxRecDepth 100000 in
set_option maxHeartbeats 1000000 in
theorem heldPointSS_any (A : Option Addr) (N c k lo hi : Nat) (us : List Value) (ns : List Nat) (w : World) (hN : us.length = N) (h : Marked2 52 2 lo hi w A us ns k) (hk : k + 2 * ns.sum ≤ 4611686018427387904) (hu : N ≤ 1073741824) :
    Calls Try.prog 14 #[.slice A N c, .int .i64 (k : Int)] w fun e w' => e = .returned (.int .i64 ((k + 2 * ns.sum : Nat) : Int)) ∧ w = w' := by
  have hNH := Lib.hid hN
  have hH := Lib.hid h
  clear hN h
  go_enter Try.func14, Try.ntmps14
  go_wp2
  go_loopg [5, 1] N (fun r x kk wr => ∃ i : Nat, i + r = N ∧ x = .int .i64 (i : Int) ∧ kk = .int .i64 ((k + 2 * (ns.take i).sum : Nat) : Int) ∧ w = wr)
  case atStart => exact ⟨0, by omega, rfl, by simp, rfl⟩
  case round =>
    obtain ⟨i, hi', rfl, rfl, rfl⟩ := hrel
    have hle := sum_take_le ns i
    obtain ⟨j0, hj⟩ : ∃ j0, k + 2 * (ns.take i).sum = j0 := ⟨_, rfl⟩
    rw [hj]
    have hjH := Lib.hid hj
    have hj0 : j0 ≤ 4611686018427387904 := by omega
    clear hj
    by_cases hlt : i < N
    · obtain ⟨g, rfl, hg1, hg2, hg3, hgc⟩ := hH.out.rows.outer (by rw [hNH.out]; omega)
      obtain ⟨u, huu⟩ : ∃ u, us[i]? = some u := ⟨_, List.getElem?_eq_getElem (by rw [hNH.out]; exact hlt)⟩
      obtain ⟨n, hn⟩ : ∃ n, ns[i]? = some n := ⟨_, List.getElem?_eq_getElem (by rw [← hH.out.rows.len, hNH.out]; exact hlt)⟩
      obtain ⟨A', c', rfl, hmd⟩ := hH.out.marks i u n (by rw [hNH.out]; exact hlt) huu hn
      rw [hjH.out] at hmd
      have hmdH := Lib.hid hmd
      have hc0 := hgc i _ huu
      have hsu := sum_take_succ ns i n hn
      have hle2 := sum_take_le ns (i + 1)
      have hj2 : j0 + 2 * n ≤ 4611686018427387904 := by have := hjH.out; omega
      have hjp : (0 : Int) ≤ ((j0 + 2 * n : Nat) : Int) := by omega
      have hjp2 : (0 : Int) ≤ (j0 : Int) + 2 * (n : Int) := by omega
      have hsuH := Lib.hid (show k + 2 * (ns.take (i + 1)).sum = j0 + 2 * n by have := hjH.out; omega)
      clear hgc hn huu hsu hle hle2 hmd
      go_wp2_with (refine (heldPointS_any A' n c' j0 lo hi _ hmdH.out hj2).mono ?_; rintro e w' ⟨rfl, rfl⟩)
      go_roundg (N - (i + 1))
      case measure => omega
      case rel => exact ⟨i + 1, by omega, by go_num, by rw [hsuH.out]; go_num, rfl⟩
    · obtain rfl : i = N := by omega
      go_wp2
      go_ret
      have hall : ns.take i = ns := List.take_of_length_le (by rw [← hH.out.rows.len, hNH.out]; exact Nat.le_refl _)
      exact ⟨ret_int (show (j0 : Int) = ((k + 2 * ns.sum : Nat) : Int) by rw [← hjH.out, hall]), rfl⟩
theorem rdPointSS {W : World} {base : Nat} {A : Option Addr} {n c : Nat} {us : List Value} {P : List (List Pt)} (h : Own2 W base 27 52 2 (.slice A n c) us (P.map ptCells)) (hn : n = P.length := by rfl) : RdSl 1 (RRow 2 RPt) W A n P := by
  refine h.rd hn (fun u m xs hx hown => ?_)
  have hl := hown.1
  rw [ptCells_len] at hl
  obtain ⟨A', c', rfl⟩ := ownsRow_form hown
  exact ⟨A', m, c', rfl, rdPts hown (by omega)⟩
theorem nrowsPointSS {W : World} {base : Nat} {A : Option Addr} {n c : Nat} {us : List Value} {P : List (List Pt)} (h : Own2 W base 27 52 2 (.slice A n c) us (P.map ptCells)) : NRows 52 2 base W.heap.size W A us (P.map List.length) := by
  refine NRows.of h (by decide) (by simp) (fun j r m hr hm => ?_)
  rw [List.getElem?_map] at hr hm
  cases hg : P[j]? with
  | none => rw [hg] at hr; cases hr
  | some l =>
    rw [hg] at hr hm
    simp at hr hm
    rw [← hr, ← hm, ptCells_len]
theorem markPointSS_g (A : Option Addr) (c k lo hi : Nat) (us : List Value) (P : List (List Pt)) (w : World) (h : NRows 52 2 lo hi w A us (P.map List.length)) (hh : hi ≤ w.heap.size) (hl : lo ≤ w.heap.size) (hk : k + 2 * (P.map List.length).sum ≤ 4611686018427387904) (hu : P.length ≤ 1073741824) :
    Calls Try.prog 13 #[.slice A P.length c, .int .i64 (k : Int)] w (MkResN 52 2 lo hi A us (P.map List.length) k w) :=
  markPointSS_c A P.length c k lo hi us _ w (by rw [h.len]; simp) h hl hh hk hu
theorem heldPointSS_g (A : Option Addr) (c k lo hi : Nat) (us : List Value) (P : List (List Pt)) (w : World) (h : Marked2 52 2 lo hi w A us (P.map List.length) k) (hk : k + 2 * (P.map List.length).sum ≤ 4611686018427387904) (hu : P.length ≤ 1073741824) :
    Calls Try.prog 14 #[.slice A P.length c, .int .i64 (k : Int)] w fun e w' => e = .returned (.int .i64 ((k + 2 * (P.map List.length).sum : Nat) : Int)) ∧ w = w' :=
  heldPointSS_any A P.length c k lo hi us _ w (by rw [h.rows.len]; simp) h hk hu
/-- rows that are few and short -/
structure SmallPointSS (P : List (List Pt)) : Prop where
  n : P.length ≤ 1073741824
  e : ∀ r ∈ P, r.length ≤ 1073741824
  s : 2 * (P.map List.length).sum ≤ 1073741824
end Go.Proofs.Ytkfjojpohcieeaa
/- Walks: the harness' counting. -/


namespace Go.Proofs.Ytkfjojpohcieeaa
open Go.RowKit
attribute [local go_sem] BelowBy.cell BelowBy.cell_drew stillUpon givesUpon

theorem szPlacedS_any (A : Option Addr) (n c : Nat) (left : Int) (w : World) (h0 : 0 ≤ left) (h1 : left ≤ 1048576) (hs : n ≤ 9223372036854775807) :
    Calls Try.prog 31 #[.slice A n c, .int .i64 left] w (SzRes w left ((n : Int) ≤ left)) := by
  by_cases h : (n : Int) ≤ left
  · go_enter Try.func31, Try.ntmps31
    go_wp2
    go_ret
    exact ⟨_, rfl, .inr ⟨by omega, by omega, h⟩, bl_refl _⟩
  · go_enter Try.func31, Try.ntmps31
    go_wp2
    go_ret
    exact ⟨_, rfl, .inl rfl, bl_refl _⟩
theorem szAssembly_any (A : Option Addr) (n c : Nat) (left : Int) (w : World) (h0 : 0 ≤ left) (h1 : left ≤ 1048576) (hs : n ≤ 9223372036854775807) :
    Calls Try.prog 15 #[.agg #[.slice A n c], .int .i64 left] w (SzRes w left ((n : Int) ≤ left)) := by
  go_enter Try.func15, Try.ntmps15
  go_wp2_with (go_at_call 31; refine (szPlacedS_any _ _ _ _ _ h0 h1 hs).mono ?_; rintro e w1 ⟨r, rfl, (rfl | ⟨hr0, hr1, hr2⟩), hb1⟩)
  · go_ret
    exact ⟨_, rfl, .inl rfl, bl_tr (bl_al (bl_refl _) _) hb1⟩
  · go_wp2
    go_ret
    exact ⟨_, rfl, .inr ⟨hr0, hr1, hr2⟩, bl_tr (bl_al (bl_refl _) _) hb1⟩
end Go.Proofs.Ytkfjojpohcieeaa
/- Walks: the harness' copy of a row of points, and its count. -/



namespace Go.Proofs.Ytkfjojpohcieeaa
open Go.RowKit
attribute [local go_sem] BelowBy.cell BelowBy.cell_drew stillUpon givesUpon

theorem infoPtu : (Try.prog.info? 52).map (fun i => (i.zero, i.size, i.bytes)) = some (some (.agg #[.int .i64 0, .int .i64 0]), 2, 16) := by kernel_rfl
set_option maxHeartbeats 2000000 in
theorem toPointS_any (A : Option Addr) (n c : Nat) (xs : List Pt) (w : World) (h : RdSl 2 RPt w A n xs) (hn : n ≤ 1073741824) :
    Calls Try.prog 8 #[.slice A n c] w (ResSl 52 2 RPt w n xs) := by
  have hmk := fun W => run_makeN (P := Try.prog) 27 52 _ 2 16 Try.underlying27 infoPtu n (by omega) (by omega) W
  go_enter Try.func8, Try.ntmps8
  go_wp2
  go_loopg [4] n (fun g i wr => ∃ (k : Nat) (f : Nat → Value), k + g = n ∧ i = .int .i64 k ∧ Below w.heap.size w wr ∧ w.heap.size < wr.heap.size ∧ wr.rowIs w.heap.size 52 (n * 2) f ∧ (∀ j e, j < k → xs[j]? = some e → f (j * 2) = .int .i64 e.x ∧ f (j * 2 + 1) = .int .i64 e.y))
  case atStart => exact ⟨0, _, by omega, rfl, bl_al (bl_refl _) _, by simp, rowIs_make _ _ _ _, fun j e hj => by omega⟩
  case round =>
    obtain ⟨k, f, hk, rfl, hbw, hsz, hrow, hf⟩ := hrel
    have r1 := h.below RPt.stable hbw
    by_cases hlt : k < n
    · obtain ⟨b, o, rfl, hb, hc⟩ := r1.ptr (by omega)
      obtain ⟨e, he⟩ := h.get hlt
      have HE := Lib.hid he
      have HF := Lib.hid hf
      obtain ⟨c1, c1b⟩ := hc k e he
      clear hc he r1 hf
      go_wp2_with (go_at_call 27; refine (toPoint_any _ _ _).mono ?_; rintro e' w1 ⟨rfl, hb1⟩; have hrow1 := hrow.of_block (hb1.block _ hrow.lt); have hc0 := hrow1.cell (i := k * 2) (by omega); have hf0 := hrow1.frozen (k * 2); have hc1 := hrow1.cell (i := k * 2 + 1) (by omega); have hf1 := hrow1.frozen (k * 2 + 1))
      go_roundg (n - (k + 1))
      case measure => omega
      case rel => exact ⟨k + 1, _, by omega, by go_num, (by exact bel_), (by have := hb1.size; simp; omega), (hrow1.set (k * 2) _).set (k * 2 + 1) _, fun j e' hj he' => by
        have HF := HF.out
        rcases Nat.lt_succ_iff_lt_or_eq.1 hj with hj | rfl
        · have h3 := HF j e' hj he'
          rw [if_neg (by omega), if_neg (by omega), if_neg (by omega), if_neg (by omega)]; exact h3
        · obtain rfl := Option.some.inj (HE.out.symm.trans he')
          rw [if_neg (by omega), if_pos rfl, if_pos rfl]; exact ⟨rfl, rfl⟩⟩
    · obtain rfl : k = n := by omega
      go_wp2
      go_ret
      refine ⟨_, rfl, ⟨h.len, _, f, rfl, Nat.le_refl _, hrow, fun j e he => ?_⟩, hbw⟩
      have hj : j < k := by rw [← h.len]; exact (List.getElem?_eq_some_iff.1 he).1
      have h3 := hf j e hj he
      exact ⟨(hrow.cell (by omega)).trans (by rw [h3.1]), (hrow.cell (by omega)).trans (by rw [h3.2])⟩
theorem szPointS_any (A : Option Addr) (n c : Nat) (left : Int) (w : World) (h0 : 0 ≤ left) (h1 : left ≤ 1048576) (hs : n ≤ 9223372036854775807) :
    Calls Try.prog 6 #[.slice A n c, .int .i64 left] w (SzRes w left ((n : Int) ≤ left)) := by
  by_cases h : (n : Int) ≤ left
  · go_enter Try.func6, Try.ntmps6
    go_wp2
    go_ret
    exact ⟨_, rfl, .inr ⟨by omega, by omega, h⟩, bl_refl _⟩
  · go_enter Try.func6, Try.ntmps6
    go_wp2
    go_ret
    exact ⟨_, rfl, .inl rfl, bl_refl _⟩
end Go.Proofs.Ytkfjojpohcieeaa
