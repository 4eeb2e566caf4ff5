/- Walks: MeanBinding, the program's and the reference's. -/
import Derived.Test.YtbipnnjkddffbaaP3
import Derived.Test.YtbipnnjkddffbaaW27
namespace Go.Proofs.Ytbipnnjkddffbaa
open Go.RowKit Go.Shelf
set_option linter.unusedSimpArgs false
set_option linter.unusedVariables false
attribute [local go_sem] BelowBy.cell BelowBy.cell_drew stillUpon givesUpon BelowBy.cell_drew2 BelowBy.cell_drew3

set_option maxRecDepth 100000 in
set_option maxHeartbeats 1000000 in
theorem strengthOf_any (A : Option Addr) (n c : Nat) (bs : List Bd) (w : World) (h : RdSl 3 RBd w A n bs) (hn : n ≤ 100000) (hs : ∀ (k : Nat) (b : Bd), bs[k]? = some b → 0 ≤ b.s ∧ b.s ≤ 4) :
    Calls Try.prog 45 #[.slice A n c] w fun e w' => e = .returned (.int .i64 (sumB bs)) ∧ Below w.heap.size w w' := by
  have hl := h.len
  go_enter Try.func45, Try.ntmps45
  go_wp2
  go_loopg [8, 3] n (fun r x y wr => ∃ k : Nat, k + r = n ∧ x = .int .i64 (k : Int) ∧ y = .int .i64 (sumB (bs.take k)) ∧ Below w.heap.size w wr)
  case atStart => exact ⟨0, by omega, rfl, rfl, bl_refl _⟩
  case round =>
    obtain ⟨k, hk, rfl, rfl, hbw⟩ := hrel
    have hb := sumB_bound (bs := bs.take k) (fun j b hj => hs j b (by rw [List.getElem?_take] at hj; split at hj; exact hj; cases hj))
    have htl : (bs.take k).length ≤ k := List.length_take_le _ _
    have r1 := h.below RBd.stable hbw
    by_cases hlt : k < n
    · obtain ⟨b, o, rfl, hb1, hc⟩ := r1.ptr (by omega)
      obtain ⟨e, he⟩ := h.get hlt
      obtain ⟨c0, c1, c2⟩ := hc k e he
      obtain ⟨S, hS⟩ : ∃ S, sumB (bs.take k) = S := ⟨_, rfl⟩
      obtain ⟨e0, e4⟩ := hs k e he
      have hnx := Lib.hid (sumB_take he)
      rw [hS] at hb hnx
      rw [hS]
      obtain ⟨S0, S4⟩ := hb
      have S5 : S ≤ 400000 := by omega
      clear hc he hs h r1 hS S4 htl
      go_wp2
      go_roundg (n - (k + 1))
      case measure => omega
      case rel => exact ⟨k + 1, by omega, by go_num, by rw [hnx.out], by exact bel_⟩
    · obtain rfl : k = n := by omega
      clear r1
      go_wp2
      go_ret
      exact ⟨ret_int (by rw [List.take_of_length_le (by omega)]), hbw⟩
def meanCode (v : Bool) (n : Nat) : Int := if v then (if n = 0 then 3 else 0) else 1
noncomputable def meanR (gs : List Gl) (ts : List Ti) (xs : List Pl) : Nat × Nat × Int :=
  if meanCode (validAsmB gs ts xs) xs.length ≠ 0 then (0, 0, meanCode (validAsmB gs ts xs) xs.length)
  else (fracN (2 * sumB (bondsL gs ts xs)).toNat xs.length, fracD (2 * sumB (bondsL gs ts xs)).toNat xs.length, 0)
def FracRes (w : World) (r : Nat × Nat × Int) (e : Ending) (w' : World) : Prop := e = .returned (.tuple #[.agg #[.int .i64 (r.1 : Int), .int .i64 (r.2.1 : Int)], .int .i64 r.2.2]) ∧ Below w.heap.size w w'
theorem FracRes.of {w : World} {r : Nat × Nat × Int} {a b : Nat} {c : Int} {w' : World} (h : (a, b, c) = r) (hb : Below w.heap.size w w') : FracRes w r (.returned (.tuple #[.agg #[.int .i64 (a : Int), .int .i64 (b : Int)], .int .i64 c])) w' := by
  subst h; exact ⟨rfl, hb⟩
theorem bonds_s {gs : List Gl} {ts : List Ti} {xs : List Pl} (hV : Valid gs ts xs) : ∀ (k : Nat) (b : Bd), (bondsL gs ts xs)[k]? = some b → 0 ≤ b.s ∧ b.s ≤ 4 := fun k b h => by
  have := bondsL_at hV h; omega
end Go.Proofs.Ytbipnnjkddffbaa
