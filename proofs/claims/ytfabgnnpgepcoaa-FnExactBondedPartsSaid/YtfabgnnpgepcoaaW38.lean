/- Maps from numbers to places that a call makes. -/
import Derived.Test.YtfabgnnpgepcoaaW37
import Derived.Test.YtfabgnnpgepcoaaW8
import Derived.Maps.OwnSet
namespace Go.Proofs.Ytfabgnnpgepcoaa
open Go.RowKit Go.Shelf
set_option linter.unusedSimpArgs false
set_option linter.unusedVariables false
open Go.Maps (Keyed)
/-- block b is a map from numbers to places: M; at most n were laid in -/
def IMap (w : World) (b n : Nat) (M : Nat → Option Nat) : Prop :=
  ∃ D : DataW Unit, w.ownsMap Try.prog 2 (plainElem Try.prog 3) b n D ∧ ∀ k : Nat, Maps.has D (.int .i64 (k : Int)) = (M k).isSome ∧ ∀ v, M k = some v → D.atKey (.int .i64 (k : Int)) (.lit (.int .i64 0)) = .lit (.int .i64 (v : Int))
theorem IMap.made (w : World) : IMap (w.alloc (.map #[] 0)) w.heap.size 0 (fun _ => none) :=
  ⟨_, World.ownsMap_made _ _ _ _, fun k => ⟨by simp [Maps.has], fun v h => by cases h⟩⟩
theorem IMap.lt {w : World} {b n : Nat} {M : Nat → Option Nat} (h : IMap w b n M) : b < w.heap.size := by
  obtain ⟨D, h, _⟩ := h
  exact h.lt
theorem IMap.block {w w' : World} {b n : Nat} {M : Nat → Option Nat} (h : IMap w b n M) (hb : w'.heap[b]? = w.heap[b]?) : IMap w' b n M := by
  obtain ⟨D, ⟨es, clock, hh, r⟩, h2⟩ := h
  exact ⟨D, ⟨es, clock, hb.trans hh, r⟩, h2⟩
theorem int_keyed_ : Keyed Try.prog 2 := Maps.int_keyed Try.underlying2
theorem zero_int_ (w : World) : (zeroValue 3).run Try.prog w = .ok (.int .i64 0) w := by kernel_rfl
theorem wf_small {k : Int} (h0 : 0 ≤ k) (h1 : k ≤ 1000000000) : (Lit.int .i64 k).wf = true := by
  simp [Lit.wf, IntKind.min, IntKind.max, IntKind.bits, IntKind.signed]; omega
theorem wpList_look_imap (w : World) {ops : Array Oper} {rest : List Oper} {o : Oper} {a : Act} {Q : Exit → Act → World → Prop}
    (hg : o.guard = none) (m x : Operand) (hop : o.op = Op.lookup 194 m x true) (b n : Nat) (M : Nat → Option Nat) (hm : a.eval m = .map (some b)) (h : IMap w b n M) (k : Nat) (hk : k ≤ 1000000000) (hx : a.eval x = .int .i64 (k : Int))
    (hK : ∀ c : Int, (∀ v, M k = some v → c = v) → wpList Try.prog ops Q rest (a.put o.dst (.tuple #[.int .i64 c, .bool (M k).isSome])) w) : wpList Try.prog ops Q (o :: rest) a w := by
  obtain ⟨D, hown, hat⟩ := h
  refine wpList_lookup_own_ok_int w hg m x 194 hop 2 3 .i64 int_keyed_ Try.underlying194 Try.underlying3 (zero_int_ w) b n D hm hown _ (.int .i64 (k : Int)) hx (Maps.keyOf_int_mk Try.underlying2 (wf_small (by omega) (by omega))) ?_
  intro c hc hw
  rw [(hat k).1]
  refine hK c (fun v hv => ?_)
  have := (hat k).2 v hv
  rw [hc] at this
  injection this with this
  injection this
theorem wpList_put_imap (w : World) {ops : Array Oper} {rest : List Oper} {o : Oper} {a : Act} {Q : Exit → Act → World → Prop}
    (hg : o.guard = none) (m x v : Operand) (hop : o.op = Op.mapUpdate 194 m x v) (b n : Nat) (M : Nat → Option Nat) (hm : a.eval m = .map (some b)) (h : IMap w b n M) (k u : Nat) (hk : k ≤ 1000000000) (hu : u ≤ 1000000000) (hn : n < maxLen) (hx : a.eval x = .int .i64 (k : Int)) (hv : a.eval v = .int .i64 (u : Int))
    (hK : ∀ w', IMap w' b (n + 1) (fun j => if j = k then some u else M j) → w.grownBy w' (some b) → wpList Try.prog ops Q rest (a.put o.dst undef) w') : wpList Try.prog ops Q (o :: rest) a w := by
  obtain ⟨D, hown, hat⟩ := h
  refine wpList_mapUpdate_own w hg m x v 194 hop _ _ int_keyed_ Try.underlying194 _ b n D hm hown hn _ _ _ hx hv (Maps.keyOf_int_mk Try.underlying2 (wf_small (by omega) (by omega))) _ [] (plainElem_int Try.underlying3 (wf_small (by omega) (by omega))) ?_
  intro w' h1 h2
  refine hK w' ⟨_, h1, fun j => ?_⟩ h2
  by_cases hj : j = k
  · subst hj
    simp only [if_true]
    refine ⟨Maps.has_put_same hown.isMap (by simp [WideAt.IsKeyLit]) _, fun v hv => ?_⟩
    injection hv with hv
    subst hv
    exact Maps.atKey_put_same hown.isMap (by simp [WideAt.IsKeyLit]) _ _
  · have hne : (Lit.int .i64 (j : Int)) ≠ .int .i64 (k : Int) := by
      intro e
      injection e with _ e
      omega
    rw [Maps.has_put_other hne]
    simp only [if_neg hj]
    refine ⟨(hat j).1, fun v hv => ?_⟩
    rw [Maps.atKey_put_other hne]
    exact (hat j).2 v hv
end Go.Proofs.Ytfabgnnpgepcoaa
