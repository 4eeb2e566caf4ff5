/- A set and an assembly that came in, and what the functions give on them. -/
import Derived.Test.YtpnahobgmemdjaaGreatDoorW15
import Derived.Test.YtpnahobgmemdjaaGreatDoorW11
import Derived.Test.YtpnahobgmemdjaaGreatDoorP2
import Derived.Test.YtpnahobgmemdjaaGreatDoorW13
import Derived.Test.YtpnahobgmemdjaaGreatDoorW17a
namespace Go.Proofs.YtpnahobgmemdjaaGreatDoor
open Go.RowKit Go.Shelf
set_option linter.unusedSimpArgs false
set_option linter.unusedVariables false
attribute [local go_sem] BelowBy.cell BelowBy.cell_drew stillUpon givesUpon

/-- a set and an assembly that came in -/
structure SA (w : World) (G : Option Addr) (n : Nat) (T : Option Addr) (m : Nat) (A : Option Addr) (q : Nat) (gs : List Gl) (ts : List Ti) (xs : List Pl) : Prop where
  G : RdSl 2 RGl w G n gs
  T : RdSl 2 RTi w T m ts
  A : RdSl 3 RPl w A q xs
  gm : n ≤ 1073741824
  tm : m ≤ 1073741824
  q : q ≤ 1073741824
  gn : ∀ (k : Nat) (e : Gl), gs[k]? = some e → e.name.size ≤ 9223372036854775807
  tn : ∀ (k : Nat) (e : Ti), ts[k]? = some e → e.name.size ≤ 9223372036854775807 ∧ e.sides.length ≤ 9223372036854775807
section
variable {w w' : World} {G T A : Option Addr} {n cg m ct q ca : Nat} {gs : List Gl} {ts : List Ti} {xs : List Pl}
theorem SA.below (h : SA w G n T m A q gs ts xs) (hb : Below w.heap.size w w') : SA w' G n T m A q gs ts xs :=
  ⟨h.G.below RGl.stable hb, h.T.below RTi.stable hb, h.A.below RPl.stable hb, h.gm, h.tm, h.q, h.gn, h.tn⟩
/-- the reference looks at them through pointers -/
structure SAt (w : World) (p op pa opa : Nat) (gs : List Gl) (ts : List Ti) (xs : List Pl) : Prop where
  s : SetAt w p op gs ts
  a : AsmAt w pa opa xs
  q : xs.length ≤ 1073741824
  gm : gs.length ≤ 1073741824
  tm : ts.length ≤ 1073741824
  gn : ∀ (k : Nat) (e : Gl), gs[k]? = some e → e.name.size ≤ 9223372036854775807
  tn : ∀ (k : Nat) (e : Ti), ts[k]? = some e → e.name.size ≤ 9223372036854775807 ∧ e.sides.length ≤ 9223372036854775807
theorem SAt.below {op opa : Nat} {p pa : Nat} (h : SAt w p op pa opa gs ts xs) (hb : Below w.heap.size w w') : SAt w' p op pa opa gs ts xs :=
  ⟨h.s.below hb, h.a.below hb, h.q, h.gm, h.tm, h.gn, h.tn⟩
theorem SA.box (h : SA w G n T m A q gs ts xs) (cg ct ca : Nat) : SAt ((w.alloc (Obj.cells #[.slice G n cg, .slice T m ct] 25)).alloc (Obj.cells #[.slice A q ca] 28)) w.heap.size 0 (w.heap.size + 1) 0 gs ts xs :=
  ⟨⟨by simp; omega, ⟨G, n, cg, by go_simp, h.G.below RGl.stable (by exact bel_)⟩, ⟨T, m, ct, by go_simp, h.T.below RTi.stable (by exact bel_)⟩⟩, ⟨by simp, A, q, ca, by go_simp, h.A.below RPl.stable (by exact bel_)⟩,
    by rw [h.A.len]; exact h.q, by rw [h.G.len]; exact h.gm, by rw [h.T.len]; exact h.tm, h.gn, h.tn⟩
end
theorem codeB_true : codeB true = 0 := rfl
theorem codeB_false : codeB false = 1 := rfl
theorem ownsRow_base {w : World} {base base' : Nat} {e : TypeId} {size : Nat} {v : Value} {n : Nat} {xs : List Value} (h : w.ownsRow base e size v n xs) (hb : base' ≤ base) : w.ownsRow base' e size v n xs :=
  ⟨h.1, h.2.imp id (fun ⟨g, cap, cur, h1, h2, h3⟩ => ⟨g, cap, cur, h1, Nat.le_trans hb h2, h3⟩)⟩
end Go.Proofs.YtpnahobgmemdjaaGreatDoor
