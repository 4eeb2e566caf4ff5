import Derived.Test.YtkppijcjmhkkkaaGAC
import Derived.Maps.OwnOps
import Derived.Maps.OwnSet
import Derived.StringKeys
import Derived.Test.YtkppijcjmhkkkaaGAA
import Derived.Test.YtkppijcjmhkkkaaGAB
import Derived.Carry
import Derived.Deep.DeepMust
set_option linter.unusedSimpArgs false
set_option linter.unusedVariables false
/- Sets of names: maps from strings to bools that a call makes. Walks: the program's check of a set. -/




namespace Go.Proofs.Ytkppijcjmhkkkaa
open Go.RowKit
attribute [local go_sem] BelowBy.cell BelowBy.cell_drew stillUpon givesUpon
open Go.Maps (Keyed)
open Go.WideMaps (keyOf_string_mk)
/-- Block b is a map from names to bools that says N; at most n names were laid in. -/
def BMap (w : World) (b n : Nat) (N : ByteArray → Bool) : Prop :=
  ∃ D : DataW Unit, w.ownsMap Try.prog 9 (plainElem Try.prog 4) b n D ∧ ∀ s : ByteArray, D.atKey (.string s.data.toList) (.lit (.bool false)) = .lit (.bool (N s))
theorem BMap.made (w : World) : BMap (w.alloc (.map #[] 0)) w.heap.size 0 (fun _ => false) :=
  ⟨_, World.ownsMap_made _ _ _ _, fun s => WideAt.atKey_none _ (fun p hp => by simp at hp)⟩
theorem BMap.lt {w : World} {b n : Nat} {N : ByteArray → Bool} (h : BMap w b n N) : b < w.heap.size := by
  obtain ⟨D, h, _⟩ := h
  exact h.lt
theorem BMap.below {w w' : World} {b n : Nat} {N : ByteArray → Bool} (h : BMap w b n N) (hb : Below w.heap.size w w') : BMap w' b n N := by
  have hl := h.lt
  obtain ⟨D, ⟨es, clock, hh, r⟩, h2⟩ := h
  exact ⟨D, ⟨es, clock, (hb.block b hl).trans hh, r⟩, h2⟩
theorem BMap.say {w : World} {b n : Nat} {N N' : ByteArray → Bool} (h : BMap w b n N) (hN : ∀ s, N s = N' s) : BMap w b n N' := by
  obtain rfl : N = N' := funext hN
  exact h
theorem names_keyed : Keyed Try.prog 9 := Maps.string_keyed Try.underlying9
theorem zero_bool (w : World) : (zeroValue 4).run Try.prog w = .ok (.bool false) w := by kernel_rfl
theorem plainElem_bool_inv {P : Program} {e : TypeId} (he : P.underlying e = some .bool) {v : Value} {x : Bool} {ps : List MemPlace} (h : plainElem (H := Unit) P e v = some (.lit (.bool x), ps)) : v = .bool x := by
  unfold plainElem at h
  rw [he] at h
  cases v <;> simp at h
  rw [h.1]
theorem wpList_wanted {P : Program} {ops : Array Oper} {rest : List Oper} {o : Oper} {a : Act} {w : World} {Q : Exit → Act → World → Prop} (hg : Region.wanted o (yielded ops a.tmps) = true)
    (h : ∀ K, (∀ a w, wpList P ops Q rest a w → K a w) → o.wp P a w K Q) : wpList P ops Q (o :: rest) a w :=
  wpList_step fun K hK => by rw [if_pos hg]; exact h K hK
theorem wpList_lookup_gen {P : Program} {T k e : TypeId} (w : World) {ops : Array Oper} {rest : List Oper} {o : Oper} {a : Act} {Q : Exit → Act → World → Prop} (K : Keyed P k) (ht : P.underlying T = some (.map k e)) (he : P.underlying e = some .bool) (hk : P.underlying k = some .string)
    (hz : (zeroValue e).run P w = .ok (.bool false) w)
    (hg : Region.wanted o (yielded ops a.tmps) = true) (m x : Operand) (hop : o.op = Op.lookup T m x false) (b n : Nat) (D : DataW Unit) (hm : a.eval m = .map (some b)) (hown : w.ownsMap P k (plainElem P e) b n D) (s : ByteArray) (v0 : Bool) (hat : D.atKey (.string s.data.toList) (.lit (.bool false)) = .lit (.bool v0)) (hs : s.size ≤ maxLen) (hx : a.eval x = .string s)
    (hK : wpList P ops Q rest (a.put o.dst (.bool v0)) w) : wpList P ops Q (o :: rest) a w := by
  refine wpList_wanted hg fun K' hK' => ?_
  obtain ⟨v, ps, hrun, hv⟩ := hown.lookup K ht hz (plainElem_bool he false) (keyOf_string_mk hk hs)
  rw [hat] at hv
  obtain rfl := plainElem_bool_inv he hv
  unfold Oper.wp
  simp [execOp, hop, hm, hx, hrun, Result.andThen]
  exact hK' _ _ hK
theorem put_says {D : DataW Unit} (hD : Maps.IsMap D) {N : ByteArray → Bool} (hat : ∀ s : ByteArray, D.atKey (.string s.data.toList) (.lit (.bool false)) = .lit (.bool (N s))) (s t : ByteArray) :
    (D.put (.string s.data.toList) (.lit (.bool true))).atKey (.string t.data.toList) (.lit (.bool false)) = .lit (.bool (N t || decide (t = s))) := by
  by_cases ht : t = s
  · subst ht
    rw [Maps.atKey_put_same hD (by simp [WideAt.IsKeyLit])]
    simp
  · rw [Maps.atKey_put_other (fun hh => ht (by
      injection hh with hh
      cases t; cases s
      simp only [ByteArray.mk.injEq]
      exact Array.toList_inj.1 hh)), hat t]
    simp [ht]
end Go.Proofs.Ytkppijcjmhkkkaa
/- Walks: the harness' copies. -/


namespace Go.Proofs.Ytkppijcjmhkkkaa
open Go.RowKit
attribute [local go_sem] BelowBy.cell BelowBy.cell_drew stillUpon givesUpon

theorem infoI : (Try.prog.info? 2).map (fun i => (i.zero, i.size, i.bytes)) = some (some (.int .i64 0), 1, 8) := by kernel_rfl
def ResAs (T : Nat) (w : World) (n : Nat) (xs : List Pl) (e : Ending) (w' : World) : Prop :=
  ∃ A, e = .returned (.agg #[.slice A n n]) ∧ OwSl T 3 RPl w' w.heap.size A n xs ∧ Below w.heap.size w w'
end Go.Proofs.Ytkppijcjmhkkkaa
/- Walks: the program's check of a set. -/



namespace Go.Proofs.Ytkppijcjmhkkkaa
open Go.RowKit
attribute [local go_sem] BelowBy.cell BelowBy.cell_drew stillUpon givesUpon
/-- one of the first k glues bears the name -/
def seenG (gs : List Gl) (k : Nat) (s : ByteArray) : Bool := !allB k (fun i => match gs[i]? with | none => true | some e => decide (e.name ≠ s))
def seenT (ts : List Ti) (k : Nat) (s : ByteArray) : Bool := !allB k (fun i => match ts[i]? with | none => true | some e => decide (e.name ≠ s))
theorem allB_succ (k : Nat) (p : Nat → Bool) : allB (k + 1) p = (allB k p && p k) := by
  unfold allB; rw [List.range_succ, List.all_append]; simp
theorem seenG_succ {gs : List Gl} {k : Nat} {e : Gl} (h : gs[k]? = some e) (s : ByteArray) : (seenG gs k s || decide (s = e.name)) = seenG gs (k + 1) s := by
  unfold seenG; rw [allB_succ, h]
  by_cases hs : s = e.name
  · subst hs; simp
  · have : ¬ e.name = s := fun h => hs h.symm
    simp [hs, this]
theorem seenT_succ {ts : List Ti} {k : Nat} {e : Ti} (h : ts[k]? = some e) (s : ByteArray) : (seenT ts k s || decide (s = e.name)) = seenT ts (k + 1) s := by
  unfold seenT; rw [allB_succ, h]
  by_cases hs : s = e.name
  · subst hs; simp
  · have : ¬ e.name = s := fun h => hs h.symm
    simp [hs, this]
theorem freshG_seen {gs : List Gl} {k : Nat} {e : Gl} (h : gs[k]? = some e) : seenG gs k e.name = !freshG gs k := by unfold seenG freshG; simp only [h]; congr 1
theorem freshT_seen {ts : List Ti} {k : Nat} {e : Ti} (h : ts[k]? = some e) : seenT ts k e.name = !freshT ts k := by unfold seenT freshT; simp only [h]; congr 1
theorem BMap.made2 (w : World) (o : Obj) : BMap ((w.alloc o).alloc (.map #[] 0)) (w.heap.size + 1) 0 (fun _ => false) := by
  have := BMap.made (w.alloc o)
  rwa [World.size_alloc] at this
theorem isNameB_le {s : ByteArray} (h : isNameB s = true) : s.size ≤ 12 := by
  simp [isNameB] at h; exact h.2
end Go.Proofs.Ytkppijcjmhkkkaa
