import Derived.Test.YtpnahobgmemdjaaGreatDoorHMk
import Derived.Laws.IdiomStrings
import Derived.Laws.Concat
import Derived.Test.YtpnahobgmemdjaaGreatDoorP2
import Derived.Test.YtpnahobgmemdjaaGreatDoorW20a
set_option linter.unusedSimpArgs false
set_option linter.unusedVariables false
/- Walks: the harness' marks. -/



namespace Go.Proofs.YtpnahobgmemdjaaGreatDoor
open Go.RowKit
attribute [local go_sem] BelowBy.cell BelowBy.cell_drew stillUpon givesUpon

/-- what a mark leaves -/
def MkRes (lo hi : Nat) (w : World) (r : Nat) (e : Ending) (w' : World) : Prop := e = .returned (.int .i64 (r : Int)) ∧ Mk lo hi w w'
def MkRes2 (lo hi : Nat) (w : World) (k top : Nat) (e : Ending) (w' : World) : Prop := ∃ r : Nat, e = .returned (.int .i64 (r : Int)) ∧ k ≤ r ∧ r ≤ top ∧ Mk lo hi w w'
/-- markText -/
def digB (j : Nat) : UInt8 := UInt8.ofNat (48 + j % 10)
def mkDig : Nat → Nat → ByteArray → ByteArray
  | 0, _, s => s
  | f + 1, j, s => if j = 0 then s else mkDig f (j / 10) (⟨[digB j].toArray⟩ ++ s)
def markS (k : Nat) : ByteArray := if k = 0 then ⟨#[109, 48]⟩ else ⟨#[109]⟩ ++ mkDig (k + 1) k ⟨#[]⟩
theorem mkDig_zero (f : Nat) (s : ByteArray) : mkDig f 0 s = s := by cases f <;> simp [mkDig]
theorem mkDig_pos (f j : Nat) (s : ByteArray) (hj : 0 < j) : mkDig (f + 1) j s = mkDig f (j / 10) (⟨[digB j].toArray⟩ ++ s) := by
  simp only [mkDig]; rw [if_neg (by omega)]
theorem size_snoc1 (u : UInt8) (s : ByteArray) : ((⟨[u].toArray⟩ : ByteArray) ++ s).size = s.size + 1 := by
  rw [ByteArray.size_append]; show 1 + s.size = _; omega
theorem run_digit (t t9 u : TypeId) (ht : Tryz.prog.underlying t = some (.slice u)) (hu : Tryz.prog.underlying u = some (.int .u8)) (h9 : Tryz.prog.underlying t9 = some .string) (j : Nat) (W : World) :
    (convert t t9 (.slice (some ⟨W.heap.size, 0, none⟩) 1 1)).run Tryz.prog (W.alloc (.cells #[.int .u8 (48 + (j : Int) % 10)] u)) = .ok (.string ⟨[digB j].toArray⟩) (W.alloc (.cells #[.int .u8 (48 + (j : Int) % 10)] u)) := by
  have := run_convert_bytes_back (P := Tryz.prog) (W.alloc (.cells #[.int .u8 (48 + (j : Int) % 10)] u)) t t9 u ⟨W.heap.size, 0, none⟩ 1 [digB j] ht hu h9 (fun i hi => by
    obtain rfl : i = 0 := by simpa using hi
    simp [Addr.add, digB]
    omega)
  exact this
def MarkT (w : World) (k : Nat) (e : Ending) (w' : World) : Prop := e = .returned (.string (markS k)) ∧ Below w.heap.size w w'
set_option maxRecDepth 100000 in
set_option maxHeartbeats 1000000 in
theorem markText_any (k : Nat) (hk : k ≤ 4611686018427387904) (w : World) :
    Calls Tryz.prog 61 #[.int .i64 (k : Int)] w (MarkT w k) := by
  by_cases h0 : k = 0
  · subst h0
    go_enter Tryz.func61, Tryz.ntmps61
    go_wp2
    go_ret
    exact ⟨rfl, bl_refl _⟩
  · have hpos : (0 : Int) < (k : Int) := by omega
    have hm : markS k = ⟨#[109]⟩ ++ mkDig (k + 1) k ⟨#[]⟩ := by unfold markS; rw [if_neg h0]
    have hmH := Lib.hid hm
    clear h0 hm
    go_enter Tryz.func61, Tryz.ntmps61
    go_wp2
    go_loopg [0, 3] (k + 1) (fun r x out wr => ∃ (j : Nat) (s : ByteArray), j < r ∧ s.size + r ≤ k + 1 ∧ mkDig r j s = mkDig (k + 1) k ⟨#[]⟩ ∧ x = .int .i64 (j : Int) ∧ out = .string s ∧ Below w.heap.size w wr)
    case atStart => exact ⟨k, _, by omega, Nat.le_of_eq (Nat.zero_add _), rfl, rfl, rfl, bl_refl _⟩
    case round =>
      obtain ⟨j, s, hj, hs, hd, rfl, rfl, hbw⟩ := hrel
      have hcv := run_digit _ _ _ Tryz.underlying84 Tryz.underlying5 Tryz.underlying9 j
      have hdH := Lib.hid hd
      have hszH := Lib.hid (size_snoc1 (digB j) s)
      clear hd
      have hss : (s.size : Int) ≤ 4611686018427387905 := by omega
      by_cases hlt : 0 < j
      · have hlt' : (0 : Int) < (j : Int) := by omega
        have hge : (0 : Int) ≤ (j : Int) := by omega
        go_wp2
        go_roundg (gk - 1)
        case measure => omega
        case rel => exact ⟨j / 10, _, by omega, by (have := hszH.out; omega), by (rw [← hdH.out]; obtain ⟨r', rfl⟩ : ∃ r', gk = r' + 1 := ⟨gk - 1, by omega⟩; rw [mkDig_pos _ _ _ hlt]; rfl), by go_num, rfl, bl_al hbw _⟩
      · have hlt' : ¬ (0 : Int) < (j : Int) := by omega
        have hcat := fun W : World => run_string_add_sum (P := Tryz.prog) (w := W) ⟨#[109]⟩ s (by show 1 + s.size ≤ _; omega)
        go_wp2
        go_ret
        refine ⟨?_, hbw⟩
        obtain rfl : j = 0 := by omega
        rw [hmH.out, ← hdH.out, mkDig_zero]
        rfl
end Go.Proofs.YtpnahobgmemdjaaGreatDoor
/- Walks: the harness' marks on slices, sets, assemblies. -/


namespace Go.Proofs.YtpnahobgmemdjaaGreatDoor
open Go.RowKit
attribute [local go_sem] BelowBy.cell BelowBy.cell_drew stillUpon givesUpon

set_option maxRecDepth 100000 in
set_option maxHeartbeats 1000000 in
theorem markInt64S_any (A : Option Addr) (n c k lo hi : Nat) (w : World) (h : MkRow 2 1 lo hi w A n) (hh : hi ≤ w.heap.size) (hl : lo ≤ w.heap.size) (hk : k + n ≤ 4611686018427387904) :
    Calls Tryz.prog 62 #[.slice A n c, .int .i64 (k : Int)] w (MkRes lo hi w (k + n)) := by
  go_enter Tryz.func62, Tryz.ntmps62
  go_wp2
  go_loopg [5, 1] n (fun r x kk wr => ∃ i : Nat, i + r = n ∧ x = .int .i64 (i : Int) ∧ kk = .int .i64 ((k + i : Nat) : Int) ∧ MkRow 2 1 lo hi wr A n ∧ Mk lo hi w wr)
  case atStart => exact ⟨0, by omega, rfl, rfl, h, Mk.refl _ _ _⟩
  case round =>
    obtain ⟨i, hi', rfl, rfl, hr, hm⟩ := hrel
    by_cases hlt : i < n
    · obtain ⟨g, N, f, rfl, hg1, hg2, hrow, hN⟩ := hr (by omega)
      have hc0 := hrow.cell (i := i) (by omega)
      have hf0 := hrow.frozen i
      have hki : (0 : Int) ≤ (k : Int) + (i : Int) := by omega
      have hki2 : (k : Int) + (i : Int) < 4611686018427387904 := by omega
      have hr := hr.set g i
      have hm := fun u => hm.set (p := ⟨g, i, none⟩) hg1 hg2 u
      have hr := Lib.hid hr
      have hm := Lib.hid hm
      clear hrow
      go_wp2
      go_roundg (n - (i + 1))
      case measure => omega
      case rel => exact ⟨i + 1, by omega, by go_num, by go_num, hr.out _, hm.out _⟩
    · obtain rfl : i = n := by omega
      go_wp2
      go_ret
      exact ⟨rfl, hm⟩
set_option maxRecDepth 100000 in
set_option maxHeartbeats 2000000 in
theorem markGlueS_any (A : Option Addr) (n c k lo hi : Nat) (w : World) (h : MkRow 69 2 lo hi w A n) (hh : hi ≤ w.heap.size) (hl : lo ≤ w.heap.size) (hk : k + 2 * n ≤ 4611686018427387904) :
    Calls Tryz.prog 42 #[.slice A n c, .int .i64 (k : Int)] w (MkRes lo hi w (k + 2 * n)) := by
  go_enter Tryz.func42, Tryz.ntmps42
  go_wp2
  go_loopg [5, 1] n (fun r x kk wr => ∃ i : Nat, i + r = n ∧ x = .int .i64 (i : Int) ∧ kk = .int .i64 ((k + 2 * i : Nat) : Int) ∧ MkRow 69 2 lo hi wr A n ∧ Mk lo hi w wr)
  case atStart => exact ⟨0, by omega, rfl, rfl, h, Mk.refl _ _ _⟩
  case round =>
    obtain ⟨i, hi', rfl, rfl, hr, hm⟩ := hrel
    by_cases hlt : i < n
    · obtain ⟨j, hj⟩ : ∃ j, j = k + 2 * i := ⟨_, rfl⟩
      have hki : (0 : Int) ≤ (j : Int) := by omega
      have hki2 : (j : Int) + 1 < 4611686018427387904 := by omega
      have hjH := Lib.hid hj
      rw [← hj]
      clear hj
      have hhw : hi ≤ wr.heap.size := Nat.le_trans hh hm.size
      have hmH := Lib.hid hm
      have hrH := Lib.hid hr
      have hrr := hr (by omega)
      obtain ⟨g, N, f, rfl, hg1, hg2, hrow, hN⟩ := hrr
      clear hm hr hrow
      go_wp2_with fail
      refine (markText_any j (by omega) _).mono ?_
      rintro e w1 ⟨rfl, hb1⟩
      have hr1 := hrH.out.below hb1 hhw
      have hr1H := Lib.hid hr1
      obtain ⟨g', N', f', hA, _, _, hrow, hN'⟩ := hr1 (by omega)
      obtain rfl : g = g' := by simpa using hA
      have hc0 := hrow.cell (i := i * 2) (by omega)
      have hf0 := hrow.frozen (i * 2)
      have hc1 := hrow.cell (i := i * 2 + 1) (by omega)
      have hf1 := hrow.frozen (i * 2 + 1)
      have hb1H := Lib.hid hb1
      clear hrow hr1 hA hb1
      go_wp2
      go_roundg (n - (i + 1))
      case measure => omega
      case rel => exact ⟨i + 1, by omega, by go_num, by (have := hjH.out; rw [show k + 2 * (i + 1) = j + 1 + 1 by omega]; go_num), ((hr1H.out.set g (i * 2) _).set g (i * 2 + 1) _), ((hmH.out.bl hb1H.out hl).set (p := ⟨g, i * 2, none⟩) hg1 hg2 _).set (p := ⟨g, i * 2 + 1, none⟩) hg1 hg2 _⟩
    · obtain rfl : i = n := by omega
      go_wp2
      go_ret
      exact ⟨rfl, hm⟩
end Go.Proofs.YtpnahobgmemdjaaGreatDoor
/- Walks: the harness' marks on slices of structs of numbers, what they leave, and what 'held' says of it. -/

namespace Go.Proofs.YtpnahobgmemdjaaGreatDoor
open Go.RowKit
attribute [local go_sem] BelowBy.cell BelowBy.cell_drew stillUpon givesUpon

/-- the cells bear the numbers from k on -/
def Marked (T : TypeId) (size lo hi : Nat) (w : World) (A : Option Addr) (n k : Nat) : Prop :=
  0 < n → ∃ g N f, A = some ⟨g, 0, none⟩ ∧ lo ≤ g ∧ g < hi ∧ w.rowIs g T N f ∧ n * size ≤ N ∧ ∀ j, j < n * size → f j = .int .i64 ((k + j : Nat) : Int)
theorem Marked.keep {T : TypeId} {size lo hi k : Nat} {w w' : World} {A : Option Addr} {n : Nat} (h : Marked T size lo hi w A n k) (hk : ∀ k, lo ≤ k → k < hi → w'.heap[k]? = w.heap[k]?) : Marked T size lo hi w' A n k := fun hn => by
  obtain ⟨g, N, f, h1, h2, h3, h4, h5, h6⟩ := h hn
  exact ⟨g, N, f, h1, h2, h3, h4.of_block (hk g h2 h3), h5, h6⟩
theorem Marked.below {T : TypeId} {size lo hi k : Nat} {w w' : World} {A : Option Addr} {n : Nat} (h : Marked T size lo hi w A n k) (hb : Below w.heap.size w w') (hh : hi ≤ w.heap.size) : Marked T size lo hi w' A n k := h.keep fun k _ h2 => hb.block k (by omega)
def MkCore (T : TypeId) (size g N n k : Nat) (w : World) (r : Nat) (e : Ending) (w' : World) : Prop := e = .returned (.int .i64 (r : Int)) ∧ Mk g (g + 1) w w' ∧ ∃ f, w'.rowIs g T N f ∧ ∀ j, j < n * size → f j = .int .i64 ((k + j : Nat) : Int)
def MkResC (T : TypeId) (size lo hi : Nat) (A : Option Addr) (n k : Nat) (w : World) (r : Nat) (e : Ending) (w' : World) : Prop := e = .returned (.int .i64 (r : Int)) ∧ Mk lo hi w w' ∧ Marked T size lo hi w' A n k

set_option maxRecDepth 100000 in
set_option maxHeartbeats 2000000 in
theorem markInt64S_zero (A : Option Addr) (c k : Nat) (w : World) :
    Calls Tryz.prog 62 #[.slice A 0 c, .int .i64 (k : Int)] w fun e w' => e = .returned (.int .i64 (k : Int)) ∧ w = w' := by
  go_enter Tryz.func62, Tryz.ntmps62
  go_wp2
  refine wp_loop_rounds 1 ?_
  rw [rounds_succ]
  go_wp2
  go_ret
  exact ⟨rfl, rfl⟩
set_option maxRecDepth 100000 in
set_option maxHeartbeats 2000000 in
theorem markInt64S_core (g N n c k : Nat) (f0 : Nat → Value) (w : World) (hrow0 : w.rowIs g 2 N f0) (hN : n * 1 ≤ N) (hk : k + n ≤ 4611686018427387904) :
    Calls Tryz.prog 62 #[.slice (some ⟨g, 0, none⟩) n c, .int .i64 (k : Int)] w (MkCore 2 1 g N n k w (k + n)) := by
  have hg1 : g ≤ g := Nat.le_refl _
  have hg2 : g < g + 1 := Nat.lt_succ_self _
  go_enter Tryz.func62, Tryz.ntmps62
  go_wp2
  go_loopg [5, 1] n (fun r x kk wr => ∃ (i : Nat) (f : Nat → Value), i + r = n ∧ x = .int .i64 (i : Int) ∧ kk = .int .i64 ((k + i : Nat) : Int) ∧ wr.rowIs g 2 N f ∧ (∀ j, j < i * 1 → f j = .int .i64 ((k + j : Nat) : Int)) ∧ Mk g (g + 1) w wr)
  case atStart => exact ⟨0, f0, by omega, rfl, rfl, hrow0, fun j hj => by omega, Mk.refl _ _ _⟩
  case round =>
    obtain ⟨i, f, hi', rfl, rfl, hrow, hcont, hm⟩ := hrel
    have hcontH := Lib.hid hcont
    have hmH := Lib.hid hm
    clear hcont hm
    by_cases hlt : i < n
    · obtain ⟨j0, hj⟩ : ∃ j0, j0 = k + i := ⟨_, rfl⟩
      have hki : (0 : Int) ≤ (j0 : Int) := by omega
      have hki2 : (j0 : Int) + 1 < 4611686018427387910 := by omega
      have hjH := Lib.hid hj
      rw [← hj]
      clear hj
      have hc0 := hrow.cell (i := i) (by omega)
      have hf0 := hrow.frozen (i)
      have hrowH := Lib.hid hrow
      clear hrow
      go_wp2
      go_roundg (n - (i + 1))
      case measure => omega
      case rel => exact ⟨i + 1, _, by omega, by go_num, by (have := hjH.out; rw [show k + (i + 1) = j0 + 1 by omega]; go_num), (hrowH.out.set (i) _), fun j hj => (by
        have hcont := hcontH.out
        have h0 := hjH.out
        rcases (show j < i * 1 ∨ j = i by omega) with hjj | hjj
        · rw [if_neg (by omega)]; exact hcont j hjj
        · rw [if_pos (by omega)]; exact congrArg (Value.int IntKind.i64) (by have := hjH.out; omega)), ((hmH.out).set (p := ⟨g, i, none⟩) hg1 hg2 _)⟩
    · obtain rfl : i = n := by omega
      go_wp2
      go_ret
      exact ⟨rfl, hmH.out, f, hrow, hcontH.out⟩
theorem markInt64S_c (A : Option Addr) (n c k lo hi : Nat) (w : World) (h : MkRow 2 1 lo hi w A n) (hh : hi ≤ w.heap.size) (hl : lo ≤ w.heap.size) (hk : k + n ≤ 4611686018427387904) :
    Calls Tryz.prog 62 #[.slice A n c, .int .i64 (k : Int)] w (MkResC 2 1 lo hi A n k w (k + n)) := by
  by_cases hn : n = 0
  · subst hn
    refine (markInt64S_zero A c k w).mono ?_
    rintro e w' ⟨rfl, rfl⟩
    exact ⟨rfl, Mk.refl _ _ _, fun h => by omega⟩
  · obtain ⟨g, N, f0, rfl, hg1, hg2, hrow0, hN⟩ := h (by omega)
    refine (markInt64S_core g N n c k f0 w hrow0 hN hk).mono ?_
    rintro e w' ⟨he, hm, f, hrow, hcont⟩
    exact ⟨he, hm.weaken hg1 (by omega), fun _ => ⟨g, N, f, rfl, hg1, hg2, hrow, hN, hcont⟩⟩

set_option maxRecDepth 100000 in
set_option maxHeartbeats 2000000 in
theorem heldInt64S_any (A : Option Addr) (n c k lo hi : Nat) (w : World) (h : Marked 2 1 lo hi w A n k) (hk : k + n ≤ 4611686018427387904) :
    Calls Tryz.prog 63 #[.slice A n c, .int .i64 (k : Int)] w fun e w' => e = .returned (.int .i64 ((k + n : Nat) : Int)) ∧ w = w' := by
  go_enter Tryz.func63, Tryz.ntmps63
  go_wp2
  go_loopg [5, 1] n (fun r x kk wr => ∃ i : Nat, i + r = n ∧ x = .int .i64 (i : Int) ∧ kk = .int .i64 ((k + i : Nat) : Int) ∧ w = wr)
  case atStart => exact ⟨0, by omega, rfl, rfl, rfl⟩
  case round =>
    obtain ⟨i, hi', rfl, rfl, rfl⟩ := hrel
    by_cases hlt : i < n
    · obtain ⟨j0, hj⟩ : ∃ j0, j0 = k + i := ⟨_, rfl⟩
      have hki : (0 : Int) ≤ (j0 : Int) := by omega
      have hki2 : (j0 : Int) + 1 < 4611686018427387910 := by omega
      have hjH := Lib.hid hj
      rw [← hj]
      obtain ⟨g, N, f, rfl, hg1, hg2, hrow, hN, hcont⟩ := h (by omega)
      have hc0 := hrow.cell (i := i) (by omega)
      rw [hcont (i) (by omega), show ((k + (i) : Nat) : Int) = (j0 : Int) by omega] at hc0
      clear hj hrow hcont h
      go_wp2
      go_roundg (n - (i + 1))
      case measure => omega
      case rel => exact ⟨i + 1, by omega, by go_num, by (have := hjH.out; rw [show k + (i + 1) = j0 + 1 by omega]; go_num), rfl⟩
    · obtain rfl : i = n := by omega
      go_wp2
      go_ret
      exact ⟨rfl, rfl⟩

set_option maxRecDepth 100000 in
set_option maxHeartbeats 2000000 in
theorem markPlacedS_zero (A : Option Addr) (c k : Nat) (w : World) :
    Calls Tryz.prog 44 #[.slice A 0 c, .int .i64 (k : Int)] w fun e w' => e = .returned (.int .i64 (k : Int)) ∧ w = w' := by
  go_enter Tryz.func44, Tryz.ntmps44
  go_wp2
  refine wp_loop_rounds 1 ?_
  rw [rounds_succ]
  go_wp2
  go_ret
  exact ⟨rfl, rfl⟩
set_option maxRecDepth 100000 in
set_option maxHeartbeats 2000000 in
theorem markPlacedS_core (g N n c k : Nat) (f0 : Nat → Value) (w : World) (hrow0 : w.rowIs g 67 N f0) (hN : n * 3 ≤ N) (hk : k + 3 * n ≤ 4611686018427387904) :
    Calls Tryz.prog 44 #[.slice (some ⟨g, 0, none⟩) n c, .int .i64 (k : Int)] w (MkCore 67 3 g N n k w (k + 3 * n)) := by
  have hg1 : g ≤ g := Nat.le_refl _
  have hg2 : g < g + 1 := Nat.lt_succ_self _
  go_enter Tryz.func44, Tryz.ntmps44
  go_wp2
  go_loopg [5, 1] n (fun r x kk wr => ∃ (i : Nat) (f : Nat → Value), i + r = n ∧ x = .int .i64 (i : Int) ∧ kk = .int .i64 ((k + 3 * i : Nat) : Int) ∧ wr.rowIs g 67 N f ∧ (∀ j, j < i * 3 → f j = .int .i64 ((k + j : Nat) : Int)) ∧ Mk g (g + 1) w wr)
  case atStart => exact ⟨0, f0, by omega, rfl, rfl, hrow0, fun j hj => by omega, Mk.refl _ _ _⟩
  case round =>
    obtain ⟨i, f, hi', rfl, rfl, hrow, hcont, hm⟩ := hrel
    have hcontH := Lib.hid hcont
    have hmH := Lib.hid hm
    clear hcont hm
    by_cases hlt : i < n
    · obtain ⟨j0, hj⟩ : ∃ j0, j0 = k + 3 * i := ⟨_, rfl⟩
      have hki : (0 : Int) ≤ (j0 : Int) := by omega
      have hki2 : (j0 : Int) + 3 < 4611686018427387910 := by omega
      have hjH := Lib.hid hj
      rw [← hj]
      clear hj
      have hc0 := hrow.cell (i := i * 3) (by omega)
      have hf0 := hrow.frozen (i * 3)
      have hc1 := hrow.cell (i := i * 3 + 1) (by omega)
      have hf1 := hrow.frozen (i * 3 + 1)
      have hc2 := hrow.cell (i := i * 3 + 2) (by omega)
      have hf2 := hrow.frozen (i * 3 + 2)
      have hrowH := Lib.hid hrow
      clear hrow
      go_wp2
      go_roundg (n - (i + 1))
      case measure => omega
      case rel => exact ⟨i + 1, _, by omega, by go_num, by (have := hjH.out; rw [show k + 3 * (i + 1) = j0 + 1 + 1 + 1 by omega]; go_num), (((hrowH.out.set (i * 3) _).set (i * 3 + 1) _).set (i * 3 + 2) _), fun j hj => (by
        have hcont := hcontH.out
        have h0 := hjH.out
        rcases (show j < i * 3 ∨ j = i * 3 ∨ j = i * 3 + 1 ∨ j = i * 3 + 2 by omega) with hjj | hjj | hjj | hjj
        · rw [if_neg (by omega), if_neg (by omega), if_neg (by omega)]; exact hcont j hjj
        · rw [if_neg (by omega), if_neg (by omega), if_pos (by omega)]; exact congrArg (Value.int IntKind.i64) (by have := hjH.out; omega)
        · rw [if_neg (by omega), if_pos (by omega)]; exact congrArg (Value.int IntKind.i64) (by have := hjH.out; omega)
        · rw [if_pos (by omega)]; exact congrArg (Value.int IntKind.i64) (by have := hjH.out; omega)), ((((hmH.out).set (p := ⟨g, i * 3, none⟩) hg1 hg2 _).set (p := ⟨g, i * 3 + 1, none⟩) hg1 hg2 _).set (p := ⟨g, i * 3 + 2, none⟩) hg1 hg2 _)⟩
    · obtain rfl : i = n := by omega
      go_wp2
      go_ret
      exact ⟨rfl, hmH.out, f, hrow, hcontH.out⟩
theorem markPlacedS_c (A : Option Addr) (n c k lo hi : Nat) (w : World) (h : MkRow 67 3 lo hi w A n) (hh : hi ≤ w.heap.size) (hl : lo ≤ w.heap.size) (hk : k + 3 * n ≤ 4611686018427387904) :
    Calls Tryz.prog 44 #[.slice A n c, .int .i64 (k : Int)] w (MkResC 67 3 lo hi A n k w (k + 3 * n)) := by
  by_cases hn : n = 0
  · subst hn
    refine (markPlacedS_zero A c k w).mono ?_
    rintro e w' ⟨rfl, rfl⟩
    exact ⟨rfl, Mk.refl _ _ _, fun h => by omega⟩
  · obtain ⟨g, N, f0, rfl, hg1, hg2, hrow0, hN⟩ := h (by omega)
    refine (markPlacedS_core g N n c k f0 w hrow0 hN hk).mono ?_
    rintro e w' ⟨he, hm, f, hrow, hcont⟩
    exact ⟨he, hm.weaken hg1 (by omega), fun _ => ⟨g, N, f, rfl, hg1, hg2, hrow, hN, hcont⟩⟩
theorem markPlacedS_any (A : Option Addr) (n c k lo hi : Nat) (w : World) (h : MkRow 67 3 lo hi w A n) (hh : hi ≤ w.heap.size) (hl : lo ≤ w.heap.size) (hk : k + 3 * n ≤ 4611686018427387904) :
    Calls Tryz.prog 44 #[.slice A n c, .int .i64 (k : Int)] w (MkRes lo hi w (k + 3 * n)) :=
  (markPlacedS_c A n c k lo hi w h hh hl hk).mono fun _ _ h => ⟨h.1, h.2.1⟩
end Go.Proofs.YtpnahobgmemdjaaGreatDoor
/- Walks: the harness' marks on sets and assemblies. -/

namespace Go.Proofs.YtpnahobgmemdjaaGreatDoor
open Go.RowKit
attribute [local go_sem] BelowBy.cell BelowBy.cell_drew stillUpon givesUpon

theorem tile_ne_int : (73 : TypeId) ≠ 2 := by decide
theorem rowIs_size {w : World} {g N M : Nat} {T : TypeId} {f f' : Nat → Value} (h : w.rowIs g T N f) (k : w.rowIs g T M f') : N = M := by
  obtain ⟨c, hc, hs, _⟩ := h
  obtain ⟨c', hc', hs', _⟩ := k
  rw [hc] at hc'
  injection hc' with hc'
  injection hc' with hc'
  rw [← hs, ← hs', hc']
theorem MkTiles.mkI {lo hi : Nat} {w w' : World} {A : Option Addr} {m : Nat} (h : MkTiles 73 2 lo hi w A m) {b N' : Nat} {f0 f1 : Nat → Value} (h1 : w.rowIs b 2 N' f0) (h2 : w'.rowIs b 2 N' f1) (hk : ∀ k, k ≠ b → k < w.heap.size → w'.heap[k]? = w.heap[k]?) : MkTiles 73 2 lo hi w' A m := fun hm => by
  obtain ⟨g, N, f, a1, a2, a3, a4, a5, a6⟩ := h hm
  have hgb : g ≠ b := by
    rintro rfl
    obtain ⟨c0, hc0, _⟩ := a4
    obtain ⟨c1, hc1, _⟩ := h1
    rw [hc0] at hc1
    injection hc1 with hc1
    injection hc1 with _ ht
    exact tile_ne_int ht
  refine ⟨g, N, f, a1, a2, a3, a4.of_block (hk g hgb a4.lt), a5, fun k' hk' => ?_⟩
  obtain ⟨A', n', g1, g2, g3⟩ := a6 k' hk'
  refine ⟨A', n', g1, g2, fun hn' => ?_⟩
  obtain ⟨b', M, fb, b1, b2, b3, b4, b5⟩ := g3 hn'
  by_cases e : b' = b
  · subst e
    obtain rfl := rowIs_size h1 b4
    exact ⟨b', _, f1, b1, b2, b3, h2, b5⟩
  · exact ⟨b', M, fb, b1, b2, b3, b4.of_block (hk b' e b4.lt), b5⟩
/-- the marks on one row of a tile's sides -/
def MkSide (lo hi m : Nat) (B : Option Addr) (w : World) (r : Nat) (e : Ending) (w' : World) : Prop := e = .returned (.int .i64 (r : Int)) ∧ Mk lo hi w w' ∧ MkTiles 73 2 lo hi w' B m
theorem markSide_any (A B : Option Addr) (n c k lo hi m : Nat) (w : World) (h : MkRow 2 1 lo hi w A n) (hT : MkTiles 73 2 lo hi w B m) (hk : k + n ≤ 4611686018427387904) :
    Calls Tryz.prog 62 #[.slice A n c, .int .i64 (k : Int)] w (MkSide lo hi m B w (k + n)) := by
  by_cases hn : n = 0
  · subst hn
    refine (markInt64S_zero A c k w).mono ?_
    rintro e w' ⟨rfl, rfl⟩
    exact ⟨rfl, Mk.refl _ _ _, hT⟩
  · obtain ⟨g, N, f0, rfl, hg1, hg2, hrow0, hN⟩ := h (by omega)
    refine (markInt64S_core g N n c k f0 w hrow0 hN hk).mono ?_
    rintro e w' ⟨he, hm, f, hrow, hcont⟩
    refine ⟨he, hm.weaken hg1 (by omega), hT.mkI hrow0 hrow (fun k hk hk' => ?_)⟩
    rcases Nat.lt_or_ge k g with hlt | hge
    · exact hm.below.block k hlt
    · exact hm.keep k (by omega) hk'
set_option maxRecDepth 100000 in
set_option maxHeartbeats 2000000 in
theorem markTileS_any (A : Option Addr) (n c k lo hi : Nat) (w : World) (h : MkTiles 73 2 lo hi w A n) (hh : hi ≤ w.heap.size) (hl : lo ≤ w.heap.size) (hk : k + 1073741825 * n ≤ 4611686018427387904) :
    Calls Tryz.prog 43 #[.slice A n c, .int .i64 (k : Int)] w (MkRes2 lo hi w k (k + 1073741825 * n)) := by
  go_enter Tryz.func43, Tryz.ntmps43
  go_wp2
  go_loopg [5, 1] n (fun r x kk wr => ∃ (i j0 : Nat), i + r = n ∧ x = .int .i64 (i : Int) ∧ kk = .int .i64 (j0 : Int) ∧ k ≤ j0 ∧ j0 ≤ k + 1073741825 * i ∧ MkTiles 73 2 lo hi wr A n ∧ Mk lo hi w wr)
  case atStart => exact ⟨0, k, by omega, rfl, rfl, Nat.le_refl _, by omega, h, Mk.refl _ _ _⟩
  case round =>
    obtain ⟨i, j0, hi', rfl, rfl, hj1, hj2, hr, hm⟩ := hrel
    by_cases hlt : i < n
    · have hj2H := Lib.hid hj2
      have hki : (0 : Int) ≤ (j0 : Int) := by omega
      have hki2 : (j0 : Int) + 1 < 4611686018427387904 := by omega
      have hj1H := Lib.hid hj1
      have hmH := Lib.hid hm
      have hrH := Lib.hid hr
      have hhw : hi ≤ wr.heap.size := Nat.le_trans hh hm.size
      have hrr := hr (by omega)
      obtain ⟨g, N, f, rfl, hg1, hg2, hrow, hN, _⟩ := hrr
      clear hj2 hj1 hm hr hrow
      go_wp2_with fail
      refine (markText_any j0 (by omega) _).mono ?_
      rintro e w1 ⟨rfl, hb1⟩
      have hr1 := hrH.out.below hb1 hhw
      have hr1H := Lib.hid hr1
      obtain ⟨g', N', f', hA, _, _, hrow, hN', hsd⟩ := hr1 (by omega)
      obtain rfl : g = g' := by simpa using hA
      obtain ⟨A', n', hfk, hn', hside⟩ := hsd i hlt
      have hc0 := hrow.cell (i := i * 2) (by omega)
      have hf0 := hrow.frozen (i * 2)
      have hc1 := hrow.cell (i := i * 2 + 1) (by omega)
      rw [hfk] at hc1
      have hf1 := hrow.frozen (i * 2 + 1)
      have hb1H := Lib.hid hb1
      have hsideH := Lib.hid hside
      have hzs := Lib.hid hb1.size
      clear hrow hr1 hA hb1 hsd hfk hside
      go_wp2_with fail
      have hmA : Mk lo hi w (w1.setCell ⟨g, i * 2, none⟩ (Value.string (markS j0))) := ((hmH.out.bl hb1H.out hl).set (p := ⟨g, i * 2, none⟩) hg1 hg2 _)
      have hrA := hr1H.out.setName tile_ne_int rfl i (Value.string (markS j0))
      have hsA := hsideH.out.set g (i * 2) (Value.string (markS j0))
      refine (markSide_any A' _ n' _ (j0 + 1) lo hi n _ hsA hrA (by have := hj2H.out; omega)).mono ?_
      rintro e w2 ⟨rfl, hm2, hT2⟩
      have hm2H := Lib.hid hm2
      have hT2H := Lib.hid hT2
      have hmAH := Lib.hid hmA
      clear hm2 hT2 hmA hrA hsA
      go_wp2
      go_roundg (n - (i + 1))
      case measure => omega
      case rel => exact ⟨i + 1, j0 + 1 + n', by omega, by go_num, rfl, (by have := hj1H.out; omega), (by have := hj2H.out; omega), hT2H.out, hmAH.out.trans hm2H.out⟩
    · obtain rfl : i = n := by omega
      go_wp2
      go_ret
      exact ⟨j0, rfl, hj1, hj2, hm⟩
theorem rowIs_ne {w : World} {g b N M : Nat} {T U : TypeId} {f f' : Nat → Value} (h : w.rowIs g T N f) (k : w.rowIs b U M f') (hne : T ≠ U) : g ≠ b := by
  rintro rfl
  obtain ⟨c, hc, _⟩ := h
  obtain ⟨c', hc', _⟩ := k
  rw [hc] at hc'
  injection hc' with hc'
  injection hc' with _ ht
  exact hne ht
theorem MkTiles.far {lo hi g N0 : Nat} {w w' : World} {A : Option Addr} {m : Nat} {T : TypeId} {f0 : Nat → Value} (h : MkTiles 73 2 lo hi w A m) (hg : w.rowIs g T N0 f0) (hT : T ≠ 73) (hI : T ≠ 2) (hm : Mk g (g + 1) w w') : MkTiles 73 2 lo hi w' A m := fun h0 => by
  have hk : ∀ k, k ≠ g → k < w.heap.size → w'.heap[k]? = w.heap[k]? := fun k hk hk' => by
    rcases Nat.lt_or_ge k g with hlt | hge
    · exact hm.below.block k hlt
    · exact hm.keep k (by omega) hk'
  obtain ⟨b, N, f, a1, a2, a3, a4, a5, a6⟩ := h h0
  refine ⟨b, N, f, a1, a2, a3, a4.of_block (hk b (Ne.symm (rowIs_ne hg a4 hT)) a4.lt), a5, fun k' hk' => ?_⟩
  obtain ⟨A', n', g1, g2, g3⟩ := a6 k' hk'
  refine ⟨A', n', g1, g2, fun hn' => ?_⟩
  obtain ⟨b', M, fb, b1, b2, b3, b4, b5⟩ := g3 hn'
  exact ⟨b', M, fb, b1, b2, b3, b4.of_block (hk b' (Ne.symm (rowIs_ne hg b4 hI)) b4.lt), b5⟩
theorem glue_ne_tile : (69 : TypeId) ≠ 73 := by decide
theorem glue_ne_int : (69 : TypeId) ≠ 2 := by decide
/-- the marks on the glues leave the tiles as they are -/
theorem markGlues_any (A B : Option Addr) (n c m k lo hi : Nat) (w : World) (h : MkRow 69 2 lo hi w A n) (h2 : MkTiles 73 2 lo hi w B m) (hh : hi ≤ w.heap.size) (hl : lo ≤ w.heap.size) (hk : k + 2 * n ≤ 4611686018427387904) :
    Calls Tryz.prog 42 #[.slice A n c, .int .i64 (k : Int)] w (MkSide lo hi m B w (k + 2 * n)) := by
  by_cases hn : n = 0
  · refine (markGlueS_any A n c k w.heap.size w.heap.size w (fun h => by omega) (Nat.le_refl _) (Nat.le_refl _) hk).mono ?_
    rintro e w' ⟨he, hm⟩
    exact ⟨he, Mk.of_below hm.below hl, h2.keep fun k _ h3 => hm.below.block k (by omega)⟩
  · obtain ⟨g, N, f0, rfl, hg1, hg2, hrow0, hN⟩ := h (by omega)
    refine (markGlueS_any (some ⟨g, 0, none⟩) n c k g (g + 1) w (fun _ => ⟨g, N, f0, rfl, Nat.le_refl _, by omega, hrow0, hN⟩) hrow0.lt (Nat.le_of_lt hrow0.lt) hk).mono ?_
    rintro e w' ⟨he, hm⟩
    exact ⟨he, hm.weaken hg1 (by omega), h2.far hrow0 glue_ne_tile glue_ne_int hm⟩
set_option maxRecDepth 100000 in
set_option maxHeartbeats 2000000 in
theorem markTileSet_any (A B : Option Addr) (n c m d k lo hi : Nat) (w : World) (h : MkRow 69 2 lo hi w A n) (h2 : MkTiles 73 2 lo hi w B m) (hh : hi ≤ w.heap.size) (hl : lo ≤ w.heap.size) (hk : k + 2 * n + 1073741825 * m ≤ 4611686018427387904) :
    Calls Tryz.prog 21 #[.agg #[.slice A n c, .slice B m d], .int .i64 (k : Int)] w (MkRes2 lo hi w k (k + 2 * n + 1073741825 * m)) := by
  have ha : Below w.heap.size w (w.alloc (.cells #[.slice A n c, .slice B m d] 25)) := bl_al (bl_refl _) _
  have haH := Lib.hid ha
  have h' := Lib.hid (h.below ha hh)
  have h2' := Lib.hid (h2.below ha hh)
  clear h h2 ha
  go_enter Tryz.func21, Tryz.ntmps21
  go_wp2_with fail
  refine (markGlues_any A B n c m k lo hi _ h'.out h2'.out (by simp; omega) (by simp; omega) (by omega)).mono ?_
  rintro e w1 ⟨rfl, hm1, hT1⟩
  have hs1 := hm1.size
  have y1 : w1.cell? ⟨w.heap.size, 1, none⟩ = some (.slice B m d) := (World.cell?_of_block (a := ⟨w.heap.size, 1, none⟩) (hm1.keep w.heap.size hh (by simp))).trans (by go_simp)
  have l1 : w.heap.size < w1.heap.size := by simp at hs1; omega
  have hm1H := Lib.hid hm1
  have hT1H := Lib.hid hT1
  clear hm1 hT1
  go_wp2_with fail
  refine (markTileS_any B m d (k + 2 * n) lo hi _ hT1H.out (by omega) (by omega) (by omega)).mono ?_
  rintro e w2 ⟨r, rfl, hr1, hr2, hm2⟩
  have hm2H := Lib.hid hm2
  clear hm2
  go_wp2
  go_ret
  exact ⟨r, rfl, by omega, hr2, (Mk.of_below haH.out hl).trans (hm1H.out.trans hm2H.out)⟩
theorem markAssembly_any (A : Option Addr) (n c k lo hi : Nat) (w : World) (h : MkRow 67 3 lo hi w A n) (hh : hi ≤ w.heap.size) (hl : lo ≤ w.heap.size) (hk : k + 3 * n ≤ 4611686018427387904) :
    Calls Tryz.prog 22 #[.agg #[.slice A n c], .int .i64 (k : Int)] w (MkRes lo hi w (k + 3 * n)) := by
  have ha : Below w.heap.size w (w.alloc (.cells #[.slice A n c] 28)) := bl_al (bl_refl _) _
  have haH := Lib.hid ha
  have h' := Lib.hid (h.below ha hh)
  clear h ha
  go_enter Tryz.func22, Tryz.ntmps22
  go_wp2_with fail
  refine (markPlacedS_any A n c k lo hi _ h'.out (by simp; omega) (by simp; omega) hk).mono ?_
  rintro e w1 ⟨rfl, hm1⟩
  have hm1H := Lib.hid hm1
  clear hm1
  go_wp2
  go_ret
  exact ⟨rfl, (Mk.of_below haH.out hl).trans hm1H.out⟩
end Go.Proofs.YtpnahobgmemdjaaGreatDoor
/- Small words for the laws' walks. -/


namespace Go.Proofs.YtpnahobgmemdjaaGreatDoor
open Go.RowKit
theorem MkRow.lo_ {T : TypeId} {size lo lo' hi : Nat} {w : World} {A : Option Addr} {n : Nat} (h : MkRow T size lo hi w A n) (hl : lo' ≤ lo) : MkRow T size lo' hi w A n := fun hn => by
  obtain ⟨g, N, f, h1, h2, h3, h4, h5⟩ := h hn
  exact ⟨g, N, f, h1, Nat.le_trans hl h2, h3, h4, h5⟩
theorem MkTiles.lo_ {TT TI lo lo' hi : Nat} {w : World} {A : Option Addr} {m : Nat} (h : MkTiles TT TI lo hi w A m) (hl : lo' ≤ lo) : MkTiles TT TI lo' hi w A m := fun hm => by
  obtain ⟨g, N, f, h1, h2, h3, h4, h5, h6⟩ := h hm
  refine ⟨g, N, f, h1, Nat.le_trans hl h2, h3, h4, h5, fun k hk => ?_⟩
  obtain ⟨A', n', g1, g2, g3⟩ := h6 k hk
  exact ⟨A', n', g1, g2, g3.lo_ hl⟩
theorem markAssembly_any2 (A : Option Addr) (n c k lo hi : Nat) (w : World) (h : MkRow 67 3 lo hi w A n) (hh : hi ≤ w.heap.size) (hl : lo ≤ w.heap.size) (hk : k + 3 * n ≤ 4611686018427387904) :
    Calls Tryz.prog 22 #[.agg #[.slice A n c], .int .i64 (k : Int)] w (MkRes2 lo hi w k (k + 3 * n)) :=
  (markAssembly_any A n c k lo hi w h hh hl hk).mono fun _ _ h => ⟨_, h.1, by omega, Nat.le_refl _, h.2⟩
theorem markInt64S_any2 (A : Option Addr) (n c k lo hi : Nat) (w : World) (h : MkRow 2 1 lo hi w A n) (hh : hi ≤ w.heap.size) (hl : lo ≤ w.heap.size) (hk : k + n ≤ 4611686018427387904) :
    Calls Tryz.prog 62 #[.slice A n c, .int .i64 (k : Int)] w (MkRes2 lo hi w k (k + n)) :=
  (markInt64S_any A n c k lo hi w h hh hl hk).mono fun _ _ h => ⟨_, h.1, by omega, Nat.le_refl _, h.2⟩
theorem ownsRow_mk {w w' : World} {base lo hi : Nat} {e : TypeId} {size : Nat} {v : Value} {n : Nat} {xs : List Value} (h : w.ownsRow base e size v n xs) (hm : Mk lo hi w w') (hl : hi ≤ base) : w'.ownsRow base e size v n xs :=
  ⟨h.1, h.2.imp id (fun ⟨g, cap, cur, h1, h2, h3, h4⟩ => ⟨g, cap, cur, h1, h2, (hm.keep g (by omega) (Array.getElem?_eq_some_iff.1 h3).1).trans h3, h4⟩)⟩
end Go.Proofs.YtpnahobgmemdjaaGreatDoor
