/- Small words for the laws' walks: rows of rows of numbers. -/
import Derived.Test.YtfabgnnpgepcoaaXBase
import Derived.Test.YtfabgnnpgepcoaaW41
import Derived.Test.YtfabgnnpgepcoaaHSS
namespace Go.Proofs.Ytfabgnnpgepcoaa
open Go.RowKit
set_option linter.unusedSimpArgs false
set_option linter.unusedVariables false
/-- the numbers as they read -/
def intsZ (l : List Nat) : List Int := l.map fun x => ((x : Nat) : Int)
theorem intsN_eq (l : List Nat) : intsN l = (intsZ l).map (Value.int .i64) := by simp [intsN, intsZ]
theorem intsZ_len (l : List Nat) : (intsZ l).length = l.length := by simp [intsZ]
theorem rdSS {W : World} {base : Nat} {A : Option Addr} {n c : Nat} {us : List Value} {gss : List (List Nat)} (h : Own2 W base 29 2 1 (.slice A n c) us (gss.map intsN)) (hn : n = gss.length := by rfl) : RdSl 1 (RRow 1 RInt) W A n (gss.map intsZ) := by
  have h' : Own2 W base 29 2 1 (.slice A n c) us ((gss.map intsZ).map (fun l => l.map (Value.int .i64))) := by
    rw [List.map_map]
    have : (fun l => l.map (Value.int .i64)) ∘ intsZ = intsN := by funext l; simp [intsN_eq]
    rw [this]; exact h
  refine h'.rd (by rw [hn]; simp) (fun u m xs hx hown => ?_)
  have hl := hown.1
  simp at hl
  obtain ⟨A', c', rfl⟩ := ownsRow_form hown
  exact ⟨A', m, c', rfl, rdI hown hl.symm⟩
theorem nrowsSS {W : World} {base : Nat} {A : Option Addr} {n c : Nat} {us : List Value} {gss : List (List Nat)} (h : Own2 W base 29 2 1 (.slice A n c) us (gss.map intsN)) : NRows 2 1 base W.heap.size W A us (gss.map List.length) := by
  refine NRows.of h (by decide) (by simp) (fun j r m hr hm => ?_)
  rw [List.getElem?_map] at hr hm
  cases hg : gss[j]? with
  | none => rw [hg] at hr; cases hr
  | some l =>
    rw [hg] at hr hm
    simp at hr hm
    rw [← hr, ← hm, intsN_len, Nat.mul_one]
theorem markSS_g (A : Option Addr) (c k lo hi : Nat) (us : List Value) (gss : List (List Nat)) (w : World) (h : NRows 2 1 lo hi w A us (gss.map List.length)) (hh : hi ≤ w.heap.size) (hl : lo ≤ w.heap.size) (hk : k + (gss.map List.length).sum ≤ 4611686018427387904) (hu : gss.length ≤ 1073741824) :
    Calls Try.prog 54 #[.slice A gss.length c, .int .i64 (k : Int)] w (MkResN 2 1 lo hi A us (gss.map List.length) k w) :=
  markInt64SS_c A gss.length c k lo hi us _ w (by rw [h.len]; simp) h hl hh hk hu
theorem heldSS_g (A : Option Addr) (c k lo hi : Nat) (us : List Value) (gss : List (List Nat)) (w : World) (h : Marked2 2 1 lo hi w A us (gss.map List.length) k) (hk : k + (gss.map List.length).sum ≤ 4611686018427387904) (hu : gss.length ≤ 1073741824) :
    Calls Try.prog 55 #[.slice A gss.length c, .int .i64 (k : Int)] w fun e w' => e = .returned (.int .i64 ((k + 1 * (gss.map List.length).sum : Nat) : Int)) ∧ w = w' :=
  heldInt64SS_any A gss.length c k lo hi us _ w (by rw [h.rows.len]; simp) h hk hu
theorem groupsL_small (f : Nat → Nat) (n : Nat) : (groupsL f n).length ≤ n ∧ (∀ r ∈ groupsL f n, r.length ≤ n) ∧ ((groupsL f n).map List.length).sum ≤ n * n := by
  have h1 : (groupsL f n).length ≤ n := by
    have := rootsL_len f n
    simpa [groupsL] using this
  have h2 : ∀ r ∈ groupsL f n, r.length ≤ n := fun r hr => by
    obtain ⟨x, _, rfl⟩ := List.mem_map.1 hr
    have := List.length_filter_le (fun k => f k == x) (List.range n)
    simpa [partL] using this
  refine ⟨h1, h2, ?_⟩
  have h3 := sum_le_mul ((groupsL f n).map List.length) n (fun m hm => by
    obtain ⟨r, hr, rfl⟩ := List.mem_map.1 hm
    exact h2 r hr)
  rw [List.length_map] at h3
  exact Nat.le_trans h3 (Nat.mul_le_mul_right n h1)
structure SmallSS (gss : List (List Nat)) : Prop where
  n : gss.length ≤ 1073741824
  e : ∀ r ∈ gss.map intsZ, r.length ≤ 1073741824
  s : (gss.map List.length).sum ≤ 1073741824
theorem bondedR_small (gs : List Gl) (ts : List Ti) (xs : List Pl) : SmallSS (bondedR gs ts xs).1 := by
  unfold bondedR
  split
  · rename_i h
    have hl := (valid_of h).len
    obtain ⟨h1, h2, h3⟩ := groupsL_small (labOf (bondsL gs ts xs) (bondsL gs ts xs).length) xs.length
    have h4 : xs.length * xs.length ≤ 500 * 500 := Nat.mul_le_mul hl hl
    refine ⟨by show (groupsL _ _).length ≤ _; omega, fun r hr => ?_, by show ((groupsL _ _).map List.length).sum ≤ _; omega⟩
    obtain ⟨q, hq, rfl⟩ := List.mem_map.1 hr
    have := h2 q hq
    rw [intsZ_len]; omega
  · exact ⟨by simp, fun r hr => by simp at hr, by simp⟩
end Go.Proofs.Ytfabgnnpgepcoaa
