/- Small words: a result that is a row of numbers and a code. -/
import Derived.Test.YtmhgjgclclnmaaaGreatW17a
namespace Go.Proofs.YtmhgjgclclnmaaaGreat
open Go.RowKit Go.Shelf
set_option linter.unusedSimpArgs false
set_option linter.unusedVariables false

/-- a row of numbers and a code -/
def IntsRes (w : World) (r : List Int × Int) (e : Ending) (w' : World) : Prop :=
  ∃ A c, e = .returned (.tuple #[.slice A r.1.length c, .int .i64 r.2]) ∧ w'.ownsRow w.heap.size 2 1 (.slice A r.1.length c) r.1.length (r.1.map (Value.int .i64)) ∧ Below w.heap.size w w'
theorem rdI_of {W : World} {base : Nat} {v : Value} {bs : List Int} (h : W.ownsRow base 2 1 v bs.length (bs.map (Value.int .i64))) : ∃ A cap, v = .slice A bs.length cap ∧ RdSl 1 RInt W A bs.length bs := by
  rcases h.2 with ⟨rfl, h0⟩ | ⟨g, cap, cur, rfl, hb, hh, hn, hm, hs, ht⟩
  · exact ⟨none, 0, by rw [h0], rfl, fun hp => by omega⟩
  · refine ⟨_, cap, rfl, rfl, fun hp => ⟨g, 0, rfl, (Array.getElem?_eq_some_iff.1 hh).1, fun k hk => ?_⟩⟩
    have hg : (bs.map (Value.int .i64))[k]? = some (.int .i64 bs[k]) := by simp [hk]
    rw [← ht, List.getElem?_take] at hg
    split at hg
    · simp only [RInt, World.cell?, hh, Nat.zero_add, Nat.mul_one]
      simpa using hg
    · cases hg
theorem IntsRes.of {w w' : World} {r : List Int × Int} {bs : List Int} {c : Int} {v : Value} (h : (bs, c) = r) (hr : w'.ownsRow w.heap.size 2 1 v bs.length (bs.map (Value.int .i64))) (hb : Below w.heap.size w w') : IntsRes w r (.returned (.tuple #[v, .int .i64 c])) w' := by
  subst h
  obtain ⟨A, cap, rfl, _⟩ := rdI_of hr
  exact ⟨A, cap, rfl, hr, hb⟩
theorem rdI {W : World} {base : Nat} {A : Option Addr} {n c : Nat} {bs : List Int} (h : W.ownsRow base 2 1 (.slice A n c) n (bs.map (Value.int .i64))) (hn : n = bs.length := by rfl) : RdSl 1 RInt W A n bs := by
  subst hn
  obtain ⟨A', cap, e, h'⟩ := rdI_of h
  injection e with e1 e2 e3
  subst e1
  exact h'
/-- a number, a row of numbers and a code -/
def FluxRes (w : World) (r : Int × List Int × Int) (e : Ending) (w' : World) : Prop :=
  ∃ A c, e = .returned (.tuple #[.int .i64 r.1, .slice A r.2.1.length c, .int .i64 r.2.2]) ∧ w'.ownsRow w.heap.size 2 1 (.slice A r.2.1.length c) r.2.1.length (r.2.1.map (Value.int .i64)) ∧ Below w.heap.size w w'
theorem FluxRes.of {w w' : World} {r : Int × List Int × Int} {bs : List Int} {a c : Int} {v : Value} (h : (a, bs, c) = r) (hr : w'.ownsRow w.heap.size 2 1 v bs.length (bs.map (Value.int .i64))) (hb : Below w.heap.size w w') : FluxRes w r (.returned (.tuple #[.int .i64 a, v, .int .i64 c])) w' := by
  subst h
  obtain ⟨A, cap, rfl, _⟩ := rdI_of hr
  exact ⟨A, cap, rfl, hr, hb⟩
end Go.Proofs.YtmhgjgclclnmaaaGreat
