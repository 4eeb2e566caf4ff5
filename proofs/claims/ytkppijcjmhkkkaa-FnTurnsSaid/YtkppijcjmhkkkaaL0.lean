/- From what a row reads to the lists of the walks. -/
import Derived.Test.YtkppijcjmhkkkaaGAB
import Derived.Deep.Slices
import Derived.Deep.Fields
import Derived.ChangeSame
import Derived.Lib.SmallJoins
namespace Go.Proofs.Ytkppijcjmhkkkaa
open Go.RowKit Go.ChangeShapes Go.WideShapes Go.Deep
set_option linter.unusedSimpArgs false
set_option linter.unusedVariables false
section
variable {H : Type} {enc : TypeId × Value → H} {P : Program} {w : World} {base : Nat} {spare : Nat → Bool} {held : Bool}
theorem cellsOf_lt {b o : Nat} {v : Value} (h : w.cell? ⟨b, o, none⟩ = some v) : b < w.heap.size := World.block_lt_of_cell? w ⟨b, o, none⟩ h
theorem rd_slice {α : Type} {R : World → Nat → Nat → α → Prop} {Q : α → Prop} {sz : Nat} {t e : TypeId} {fuel : Nat} {v : Value} {y : DataW H × List MemPlace} (ht : P.underlying t = some (.slice e)) (hC : P.cellsOf e = sz) (hsz : 0 < sz)
    (hel : ∀ (n : Nat) (cs : List Value) (z : DataW H × List MemPlace) (b o : Nat), DataW.trod enc P w base spare held n e cs = some z → cs.length = sz → (∀ i, i < sz → w.cell? ⟨b, o + i, none⟩ = cs[i]?) → ∃ x : α, R w b o x ∧ Q x)
    (h : DataW.trod enc P w base spare held fuel t [v] = some y) : ∃ A n c xs, v = .slice A n c ∧ RdSl sz R w A n xs ∧ n ≤ maxLen ∧ ∀ x ∈ xs, Q x := by
  rcases open_slice ht h with ⟨hc, _⟩ | ⟨a, len, cap, m, n, D, Pl, hc, hb, hl, hm, hmm, hx, hi⟩
  · obtain rfl := (List.cons.inj hc).1
    exact ⟨none, 0, 0, [], rfl, ⟨rfl, fun hp => by omega⟩, Nat.zero_le _, by simp⟩
  · obtain rfl := (List.cons.inj hc).1
    have hlm : len ≤ m := by rw [hmm]; split <;> omega
    by_cases h0 : len = 0
    · subst h0
      exact ⟨some a, 0, cap, [], rfl, ⟨rfl, fun hp => by omega⟩, Nat.zero_le _, by simp⟩
    · have hspot : a.spot = none := by
        obtain ⟨cs', hcs, _⟩ := hi 0 (by omega)
        obtain ⟨_, hlen, hat⟩ := World.cells?_some hcs
        have := hat 0 (by omega)
        rw [List.getElem?_eq_getElem (by omega)] at this
        have := World.cell?_spot this
        simpa [Addr.add] using this
      obtain ⟨b, o, sp⟩ := a
      simp only at hspot
      subst hspot
      have key : ∀ i : Fin len, ∃ x : α, R w b (o + i.1 * sz) x ∧ Q x := fun i => by
        obtain ⟨cs', hcs, htr⟩ := hi i.1 (by omega)
        obtain ⟨_, hlen, hat⟩ := World.cells?_some hcs
        rw [hC] at hlen hat
        exact hel n cs' _ b (o + i.1 * sz) htr hlen (fun j hj => by
          have := hat j hj
          rw [Addr.add_lit, Addr.add_lit] at this
          exact this)
      have hblt : b < w.heap.size := by
        obtain ⟨cs', hcs, _⟩ := hi 0 (by omega)
        obtain ⟨_, hlen, hat⟩ := World.cells?_some hcs
        have := hat 0 (by omega)
        rw [List.getElem?_eq_getElem (by omega), Addr.add_lit, Addr.add_lit] at this
        exact cellsOf_lt this
      refine ⟨_, len, cap, List.ofFn (fun i => Classical.choose (key i)), rfl, ⟨by simp, fun hp => ⟨b, o, rfl, hblt, fun k hk => ?_⟩⟩, by omega, fun x hx => ?_⟩
      · have := (Classical.choose_spec (key ⟨k, by simpa using hk⟩)).1
        simpa using this
      · obtain ⟨i, rfl⟩ := List.mem_ofFn.1 hx
        exact (Classical.choose_spec (key i)).2
end
end Go.Proofs.Ytkppijcjmhkkkaa
