/- Walks: the program's check of a set. -/
import Derived.Test.YtpnahobgmemdjaaW8
import Derived.Carry
import Derived.Deep.DeepMust
namespace Go.Proofs.Ytpnahobgmemdjaa
open Go.RowKit
set_option linter.unusedSimpArgs false
set_option linter.unusedVariables false
attribute [local go_sem] BelowBy.cell BelowBy.cell_drew stillUpon givesUpon
/-- one of the first k glues bears the name -/
def seenG (gs : List Gl) (k : Nat) (s : ByteArray) : Bool := !allB k (fun i => match gs[i]? with | none => true | some e => decide (e.name ≠ s))
def seenT (ts : List Ti) (k : Nat) (s : ByteArray) : Bool := !allB k (fun i => match ts[i]? with | none => true | some e => decide (e.name ≠ s))
theorem allB_succ (k : Nat) (p : Nat → Bool) : allB (k + 1) p = (allB k p && p k) := by
  unfold allB; rw [List.range_succ, List.all_append]; simp
theorem seenG_succ {gs : List Gl} {k : Nat} {e : Gl} (h : gs[k]? = some e) (s : ByteArray) : (seenG gs k s || decide (s = e.name)) = seenG gs (k + 1) s := by
  unfold seenG; rw [allB_succ, h]
  by_cases hs : s = e.name
  · subst hs; simp
  · have : ¬ e.name = s := fun h => hs h.symm
    simp [hs, this]
theorem seenT_succ {ts : List Ti} {k : Nat} {e : Ti} (h : ts[k]? = some e) (s : ByteArray) : (seenT ts k s || decide (s = e.name)) = seenT ts (k + 1) s := by
  unfold seenT; rw [allB_succ, h]
  by_cases hs : s = e.name
  · subst hs; simp
  · have : ¬ e.name = s := fun h => hs h.symm
    simp [hs, this]
theorem freshG_seen {gs : List Gl} {k : Nat} {e : Gl} (h : gs[k]? = some e) : seenG gs k e.name = !freshG gs k := by unfold seenG freshG; simp only [h]; congr 1
theorem freshT_seen {ts : List Ti} {k : Nat} {e : Ti} (h : ts[k]? = some e) : seenT ts k e.name = !freshT ts k := by unfold seenT freshT; simp only [h]; congr 1
theorem BMap.made2 (w : World) (o : Obj) : BMap ((w.alloc o).alloc (.map #[] 0)) (w.heap.size + 1) 0 (fun _ => false) := by
  have := BMap.made (w.alloc o)
  rwa [World.size_alloc] at this
theorem isNameB_le {s : ByteArray} (h : isNameB s = true) : s.size ≤ 12 := by
  simp [isNameB] at h; exact h.2
end Go.Proofs.Ytpnahobgmemdjaa
