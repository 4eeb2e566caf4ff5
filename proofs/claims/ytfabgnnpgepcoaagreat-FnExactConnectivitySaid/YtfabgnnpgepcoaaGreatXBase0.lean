/- Small words for the laws' walks. -/
import Derived.Test.YtfabgnnpgepcoaaGreatW20a
import Derived.Test.YtfabgnnpgepcoaaGreatKH
namespace Go.Proofs.YtfabgnnpgepcoaaGreat
open Go.RowKit
set_option linter.unusedSimpArgs false
set_option linter.unusedVariables false
theorem MkRow.lo_ {T : TypeId} {size lo lo' hi : Nat} {w : World} {A : Option Addr} {n : Nat} (h : MkRow T size lo hi w A n) (hl : lo' ≤ lo) : MkRow T size lo' hi w A n := fun hn => by
  obtain ⟨g, N, f, h1, h2, h3, h4, h5⟩ := h hn
  exact ⟨g, N, f, h1, Nat.le_trans hl h2, h3, h4, h5⟩
theorem MkTiles.lo_ {TT TI lo lo' hi : Nat} {w : World} {A : Option Addr} {m : Nat} (h : MkTiles TT TI lo hi w A m) (hl : lo' ≤ lo) : MkTiles TT TI lo' hi w A m := fun hm => by
  obtain ⟨g, N, f, h1, h2, h3, h4, h5, h6⟩ := h hm
  refine ⟨g, N, f, h1, Nat.le_trans hl h2, h3, h4, h5, fun k hk => ?_⟩
  obtain ⟨A', n', g1, g2, g3⟩ := h6 k hk
  exact ⟨A', n', g1, g2, g3.lo_ hl⟩
theorem markAssembly_any2 (A : Option Addr) (n c k lo hi : Nat) (w : World) (h : MkRow 103 3 lo hi w A n) (hh : hi ≤ w.heap.size) (hl : lo ≤ w.heap.size) (hk : k + 3 * n ≤ 4611686018427387904) :
    Calls Tryz.prog 18 #[.agg #[.slice A n c], .int .i64 (k : Int)] w (MkRes2 lo hi w k (k + 3 * n)) :=
  (markAssembly_any A n c k lo hi w h hh hl hk).mono fun _ _ h => ⟨_, h.1, by omega, Nat.le_refl _, h.2⟩
theorem markInt64S_any2 (A : Option Addr) (n c k lo hi : Nat) (w : World) (h : MkRow 2 1 lo hi w A n) (hh : hi ≤ w.heap.size) (hl : lo ≤ w.heap.size) (hk : k + n ≤ 4611686018427387904) :
    Calls Tryz.prog 19 #[.slice A n c, .int .i64 (k : Int)] w (MkRes2 lo hi w k (k + n)) :=
  (markInt64S_any A n c k lo hi w h hh hl hk).mono fun _ _ h => ⟨_, h.1, by omega, Nat.le_refl _, h.2⟩
theorem ownsRow_mk {w w' : World} {base lo hi : Nat} {e : TypeId} {size : Nat} {v : Value} {n : Nat} {xs : List Value} (h : w.ownsRow base e size v n xs) (hm : Mk lo hi w w') (hl : hi ≤ base) : w'.ownsRow base e size v n xs :=
  ⟨h.1, h.2.imp id (fun ⟨g, cap, cur, h1, h2, h3, h4⟩ => ⟨g, cap, cur, h1, h2, (hm.keep g (by omega) (Array.getElem?_eq_some_iff.1 h3).1).trans h3, h4⟩)⟩
theorem rdB {W : World} {base : Nat} {A : Option Addr} {n c : Nat} {bs : List Bd} (h : W.ownsRow base 80 3 (.slice A n c) n (bdCells bs)) (hn : n = bs.length := by rfl) : RdSl 3 RBd W A n bs := by
  subst hn
  obtain ⟨A', cap, e, h'⟩ := rd_of_row h
  injection e with e1 e2 e3
  subst e1
  exact h'
end Go.Proofs.YtfabgnnpgepcoaaGreat
