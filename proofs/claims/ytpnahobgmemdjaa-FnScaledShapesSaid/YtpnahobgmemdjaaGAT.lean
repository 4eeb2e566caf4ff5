import Derived.Test.YtpnahobgmemdjaaGAS
import Derived.Test.YtpnahobgmemdjaaGAN
import Derived.Test.YtpnahobgmemdjaaGAQ
set_option linter.unusedSimpArgs false
set_option linter.unusedVariables false
/- Walks: the harness' marks on slices of structs of numbers, what they leave, and what 'held' says of it. -/


namespace Go.Proofs.Ytpnahobgmemdjaa
open Go.RowKit
attribute [local go_sem] BelowBy.cell BelowBy.cell_drew stillUpon givesUpon

/-- the cells bear the numbers from k on -/
def Marked (T : TypeId) (size lo hi : Nat) (w : World) (A : Option Addr) (n k : Nat) : Prop :=
  0 < n → ∃ g N f, A = some ⟨g, 0, none⟩ ∧ lo ≤ g ∧ g < hi ∧ w.rowIs g T N f ∧ n * size ≤ N ∧ ∀ j, j < n * size → f j = .int .i64 ((k + j : Nat) : Int)
theorem Marked.keep {T : TypeId} {size lo hi k : Nat} {w w' : World} {A : Option Addr} {n : Nat} (h : Marked T size lo hi w A n k) (hk : ∀ k, lo ≤ k → k < hi → w'.heap[k]? = w.heap[k]?) : Marked T size lo hi w' A n k := fun hn => by
  obtain ⟨g, N, f, h1, h2, h3, h4, h5, h6⟩ := h hn
  exact ⟨g, N, f, h1, h2, h3, h4.of_block (hk g h2 h3), h5, h6⟩
theorem Marked.below {T : TypeId} {size lo hi k : Nat} {w w' : World} {A : Option Addr} {n : Nat} (h : Marked T size lo hi w A n k) (hb : Below w.heap.size w w') (hh : hi ≤ w.heap.size) : Marked T size lo hi w' A n k := h.keep fun k _ h2 => hb.block k (by omega)
def MkCore (T : TypeId) (size g N n k : Nat) (w : World) (r : Nat) (e : Ending) (w' : World) : Prop := e = .returned (.int .i64 (r : Int)) ∧ Mk g (g + 1) w w' ∧ ∃ f, w'.rowIs g T N f ∧ ∀ j, j < n * size → f j = .int .i64 ((k + j : Nat) : Int)
def MkResC (T : TypeId) (size lo hi : Nat) (A : Option Addr) (n k : Nat) (w : World) (r : Nat) (e : Ending) (w' : World) : Prop := e = .returned (.int .i64 (r : Int)) ∧ Mk lo hi w w' ∧ Marked T size lo hi w' A n k

end Go.Proofs.Ytpnahobgmemdjaa
/- Walks: the harness' marks on sets and assemblies. -/

namespace Go.Proofs.Ytpnahobgmemdjaa
open Go.RowKit
attribute [local go_sem] BelowBy.cell BelowBy.cell_drew stillUpon givesUpon

theorem rowIs_size {w : World} {g N M : Nat} {T : TypeId} {f f' : Nat → Value} (h : w.rowIs g T N f) (k : w.rowIs g T M f') : N = M := by
  obtain ⟨c, hc, hs, _⟩ := h
  obtain ⟨c', hc', hs', _⟩ := k
  rw [hc] at hc'
  injection hc' with hc'
  injection hc' with hc'
  rw [← hs, ← hs', hc']
theorem rowIs_ne {w : World} {g b N M : Nat} {T U : TypeId} {f f' : Nat → Value} (h : w.rowIs g T N f) (k : w.rowIs b U M f') (hne : T ≠ U) : g ≠ b := by
  rintro rfl
  obtain ⟨c, hc, _⟩ := h
  obtain ⟨c', hc', _⟩ := k
  rw [hc] at hc'
  injection hc' with hc'
  injection hc' with _ ht
  exact hne ht
end Go.Proofs.Ytpnahobgmemdjaa
/- Small words for the laws' walks. -/


namespace Go.Proofs.Ytpnahobgmemdjaa
open Go.RowKit
theorem MkRow.lo_ {T : TypeId} {size lo lo' hi : Nat} {w : World} {A : Option Addr} {n : Nat} (h : MkRow T size lo hi w A n) (hl : lo' ≤ lo) : MkRow T size lo' hi w A n := fun hn => by
  obtain ⟨g, N, f, h1, h2, h3, h4, h5⟩ := h hn
  exact ⟨g, N, f, h1, Nat.le_trans hl h2, h3, h4, h5⟩
theorem MkTiles.lo_ {TT TI lo lo' hi : Nat} {w : World} {A : Option Addr} {m : Nat} (h : MkTiles TT TI lo hi w A m) (hl : lo' ≤ lo) : MkTiles TT TI lo' hi w A m := fun hm => by
  obtain ⟨g, N, f, h1, h2, h3, h4, h5, h6⟩ := h hm
  refine ⟨g, N, f, h1, Nat.le_trans hl h2, h3, h4, h5, fun k hk => ?_⟩
  obtain ⟨A', n', g1, g2, g3⟩ := h6 k hk
  exact ⟨A', n', g1, g2, g3.lo_ hl⟩
theorem ownsRow_mk {w w' : World} {base lo hi : Nat} {e : TypeId} {size : Nat} {v : Value} {n : Nat} {xs : List Value} (h : w.ownsRow base e size v n xs) (hm : Mk lo hi w w') (hl : hi ≤ base) : w'.ownsRow base e size v n xs :=
  ⟨h.1, h.2.imp id (fun ⟨g, cap, cur, h1, h2, h3, h4⟩ => ⟨g, cap, cur, h1, h2, (hm.keep g (by omega) (Array.getElem?_eq_some_iff.1 h3).1).trans h3, h4⟩)⟩
end Go.Proofs.Ytpnahobgmemdjaa
