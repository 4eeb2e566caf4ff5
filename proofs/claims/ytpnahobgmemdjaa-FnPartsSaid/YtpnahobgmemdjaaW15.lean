/- The program's list of bonds. -/
import Derived.Test.YtpnahobgmemdjaaW14
import Derived.Maps.AppendAt
import Derived.WalkSmall
namespace Go.Proofs.Ytpnahobgmemdjaa
open Go.RowKit Go.Shelf
set_option linter.unusedSimpArgs false
set_option linter.unusedVariables false
attribute [local go_sem] BelowBy.cell BelowBy.cell_drew stillUpon givesUpon Oper.semAt_some

theorem cell_three_new (w : World) (a b c : Value) (t : TypeId) : ∀ j u, [a, b, c][j]? = some u → (w.alloc (.cells #[a, b, c] t)).cell? ((⟨w.heap.size, 0, none⟩ : Addr).add j) = some u := by
  intro j u hj
  match j, hj with
  | 0, hj => simp at hj; subst hj; simp [Addr.add]
  | 1, hj => simp at hj; subst hj; simp [Addr.add]
  | 2, hj => simp at hj; subst hj; simp [Addr.add]
  | j + 3, hj => simp at hj
structure Bd where
  a : Nat
  b : Nat
  s : Int
def tileN (xs : List Pl) (i : Nat) : Nat := match xs[i]? with
  | none => 0
  | some e => e.t.toNat
def bdS (gs : List Gl) (ts : List Ti) {xs : List Pl} (x : NbT xs) : Int := bondI gs ts (tileN xs x.1.1) x.1.2.2 (tileN xs x.1.2.1)
def bdL (gs : List Gl) (ts : List Ti) {xs : List Pl} (l : List (NbT xs)) : List Bd := l.filterMap fun x => if 0 < bdS gs ts x then some ⟨x.1.1, x.1.2.1, bdS gs ts x⟩ else none
theorem bdL_hit {gs : List Gl} {ts : List Ti} {xs : List Pl} (l : List (NbT xs)) {x : NbT xs} (h : 0 < bdS gs ts x) : bdL gs ts (l ++ [x]) = bdL gs ts l ++ [⟨x.1.1, x.1.2.1, bdS gs ts x⟩] := by
  simp [bdL, h]
theorem bdL_miss {gs : List Gl} {ts : List Ti} {xs : List Pl} (l : List (NbT xs)) {x : NbT xs} (h : ¬ 0 < bdS gs ts x) : bdL gs ts (l ++ [x]) = bdL gs ts l := by
  simp [bdL, h]
theorem bdL_len (gs : List Gl) (ts : List Ti) {xs : List Pl} (l : List (NbT xs)) : (bdL gs ts l).length ≤ l.length := List.length_filterMap_le _ _
noncomputable def bondsL (gs : List Gl) (ts : List Ti) (xs : List Pl) : List Bd := bdL gs ts (nbAll xs xs.length)
def bdCells : List Bd → List Value
  | [] => []
  | b :: l => .int .i64 b.a :: .int .i64 b.b :: .int .i64 b.s :: bdCells l
theorem bdCells_snoc (l : List Bd) (b : Bd) : bdCells (l ++ [b]) = bdCells l ++ [.int .i64 b.a, .int .i64 b.b, .int .i64 b.s] := by
  induction l with
  | nil => rfl
  | cons c l ih => simp [bdCells, ih]
theorem heap_own {β : Type} (B : Nat) (cs : Array Value) (t : TypeId) : Own (fun (_ : β) W => W.heap[B]? = some (Obj.cells cs t)) := fun s X Y row h hg hrow => by
  refine (hg.block B (Array.getElem?_eq_some_iff.1 h).1 (fun e => ?_)).trans h
  obtain ⟨o, ho, hc⟩ := hrow B e.symm
  rw [h] at ho
  obtain rfl := Option.some.inj ho
  cases hc
theorem KeepsFrom.of_below {B : Nat} {W W' : World} (h : Below W.heap.size W W') : KeepsFrom B W W' := ⟨h.size, fun k o _ hk _ => (h.block k (Array.getElem?_eq_some_iff.1 hk).1).trans hk⟩
theorem ownsRow_below {w w' : World} {base : Nat} {e : TypeId} {size : Nat} {v : Value} {n : Nat} {xs : List Value} (h : w.ownsRow base e size v n xs) (hb : Below w.heap.size w w') : w'.ownsRow base e size v n xs :=
  h.kept (grown_below hb none) (Classical.em _)
theorem KeepT.appended {W w1 : World} {n₀ B : Nat} {t e : TypeId} {size : Nat} {v v' : Value} {k : Nat} {xs : List Value} {tmp : Obj} (hv : Boxed W B t v) (hrow : W.ownsRow n₀ e size v k xs) (hgrow : (W.alloc tmp).grownBy w1 v.ownBlock) :
    KeepT t e W (w1.setCell ⟨B, 0, none⟩ v') := by
  intro b cs t' hb h1 h2
  have hlt := (Array.getElem?_eq_some_iff.1 hb).1
  have hbB : b ≠ B := by
    intro e'
    subst e'
    rw [show W.heap[b]? = _ from hv] at hb
    simp at hb
    exact h1 hb.2.symm
  have hne : some b ≠ v.ownBlock := by
    rcases hrow.2 with ⟨rfl, _⟩ | ⟨g, cap, cur, rfl, _, hgb, _⟩
    · simp [Value.ownBlock]
    · intro e'
      obtain rfl : b = g := by simpa [Value.ownBlock] using e'
      rw [hgb] at hb
      simp at hb
      exact h2 hb.2.symm
  rw [Below.heap_setCell _ _ _ _ hbB]
  exact (hgrow.block b (by simp; omega) hne).trans ((Below.heap_alloc _ _ _ hlt).trans hb)
end Go.Proofs.Ytpnahobgmemdjaa
