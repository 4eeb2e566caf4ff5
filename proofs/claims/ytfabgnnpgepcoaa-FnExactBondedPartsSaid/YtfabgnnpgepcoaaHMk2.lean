/- Walks: the harness' marks. -/
import Derived.Test.YtfabgnnpgepcoaaHMk
import Derived.Laws.IdiomStrings
import Derived.Laws.Concat
namespace Go.Proofs.Ytfabgnnpgepcoaa
open Go.RowKit
set_option linter.unusedSimpArgs false
set_option linter.unusedVariables false
attribute [local go_sem] BelowBy.cell BelowBy.cell_drew stillUpon givesUpon

/-- what a mark leaves -/
def MkRes (lo hi : Nat) (w : World) (r : Nat) (e : Ending) (w' : World) : Prop := e = .returned (.int .i64 (r : Int)) ∧ Mk lo hi w w'
def MkRes2 (lo hi : Nat) (w : World) (k top : Nat) (e : Ending) (w' : World) : Prop := ∃ r : Nat, e = .returned (.int .i64 (r : Int)) ∧ k ≤ r ∧ r ≤ top ∧ Mk lo hi w w'
/-- markText -/
def digB (j : Nat) : UInt8 := UInt8.ofNat (48 + j % 10)
def mkDig : Nat → Nat → ByteArray → ByteArray
  | 0, _, s => s
  | f + 1, j, s => if j = 0 then s else mkDig f (j / 10) (⟨[digB j].toArray⟩ ++ s)
def markS (k : Nat) : ByteArray := if k = 0 then ⟨#[109, 48]⟩ else ⟨#[109]⟩ ++ mkDig (k + 1) k ⟨#[]⟩
theorem mkDig_zero (f : Nat) (s : ByteArray) : mkDig f 0 s = s := by cases f <;> simp [mkDig]
theorem mkDig_pos (f j : Nat) (s : ByteArray) (hj : 0 < j) : mkDig (f + 1) j s = mkDig f (j / 10) (⟨[digB j].toArray⟩ ++ s) := by
  simp only [mkDig]; rw [if_neg (by omega)]
theorem size_snoc1 (u : UInt8) (s : ByteArray) : ((⟨[u].toArray⟩ : ByteArray) ++ s).size = s.size + 1 := by
  rw [ByteArray.size_append]; show 1 + s.size = _; omega
theorem run_digit (t t9 u : TypeId) (ht : Try.prog.underlying t = some (.slice u)) (hu : Try.prog.underlying u = some (.int .u8)) (h9 : Try.prog.underlying t9 = some .string) (j : Nat) (W : World) :
    (convert t t9 (.slice (some ⟨W.heap.size, 0, none⟩) 1 1)).run Try.prog (W.alloc (.cells #[.int .u8 (48 + (j : Int) % 10)] u)) = .ok (.string ⟨[digB j].toArray⟩) (W.alloc (.cells #[.int .u8 (48 + (j : Int) % 10)] u)) := by
  have := run_convert_bytes_back (P := Try.prog) (W.alloc (.cells #[.int .u8 (48 + (j : Int) % 10)] u)) t t9 u ⟨W.heap.size, 0, none⟩ 1 [digB j] ht hu h9 (fun i hi => by
    obtain rfl : i = 0 := by simpa using hi
    simp [Addr.add, digB]
    omega)
  exact this
def MarkT (w : World) (k : Nat) (e : Ending) (w' : World) : Prop := e = .returned (.string (markS k)) ∧ Below w.heap.size w w'
set_option maxRecDepth 100000 in
set_option maxHeartbeats 1000000 in
theorem markText_any (k : Nat) (hk : k ≤ 4611686018427387904) (w : World) :
    Calls Try.prog 129 #[.int .i64 (k : Int)] w (MarkT w k) := by
  by_cases h0 : k = 0
  · subst h0
    go_enter Try.func129, Try.ntmps129
    go_wp2
    go_ret
    exact ⟨rfl, bl_refl _⟩
  · have hpos : (0 : Int) < (k : Int) := by omega
    have hm : markS k = ⟨#[109]⟩ ++ mkDig (k + 1) k ⟨#[]⟩ := by unfold markS; rw [if_neg h0]
    have hmH := Lib.hid hm
    clear h0 hm
    go_enter Try.func129, Try.ntmps129
    go_wp2
    go_loopg [0, 3] (k + 1) (fun r x out wr => ∃ (j : Nat) (s : ByteArray), j < r ∧ s.size + r ≤ k + 1 ∧ mkDig r j s = mkDig (k + 1) k ⟨#[]⟩ ∧ x = .int .i64 (j : Int) ∧ out = .string s ∧ Below w.heap.size w wr)
    case atStart => exact ⟨k, _, by omega, Nat.le_of_eq (Nat.zero_add _), rfl, rfl, rfl, bl_refl _⟩
    case round =>
      obtain ⟨j, s, hj, hs, hd, rfl, rfl, hbw⟩ := hrel
      have hcv := run_digit _ _ _ Try.underlying60 Try.underlying5 Try.underlying9 j
      have hdH := Lib.hid hd
      have hszH := Lib.hid (size_snoc1 (digB j) s)
      clear hd
      have hss : (s.size : Int) ≤ 4611686018427387905 := by omega
      by_cases hlt : 0 < j
      · have hlt' : (0 : Int) < (j : Int) := by omega
        have hge : (0 : Int) ≤ (j : Int) := by omega
        go_wp2
        go_roundg (gk - 1)
        case measure => omega
        case rel => exact ⟨j / 10, _, by omega, by (have := hszH.out; omega), by (rw [← hdH.out]; obtain ⟨r', rfl⟩ : ∃ r', gk = r' + 1 := ⟨gk - 1, by omega⟩; rw [mkDig_pos _ _ _ hlt]; rfl), by go_num, rfl, bl_al hbw _⟩
      · have hlt' : ¬ (0 : Int) < (j : Int) := by omega
        have hcat := fun W : World => run_string_add_sum (P := Try.prog) (w := W) ⟨#[109]⟩ s (by show 1 + s.size ≤ _; omega)
        go_wp2
        go_ret
        refine ⟨?_, hbw⟩
        obtain rfl : j = 0 := by omega
        rw [hmH.out, ← hdH.out, mkDig_zero]
        rfl
end Go.Proofs.Ytfabgnnpgepcoaa
