/- A set and an assembly that came in, and what the functions give on them. -/
import Derived.Test.YtmhgjgclclnmaaaGreatW16
import Derived.Test.YtmhgjgclclnmaaaGreatP2
import Derived.Test.YtmhgjgclclnmaaaGreatW13
import Derived.Test.YtmhgjgclclnmaaaGreatW17a
namespace Go.Proofs.YtmhgjgclclnmaaaGreat
open Go.RowKit Go.Shelf
set_option linter.unusedSimpArgs false
set_option linter.unusedVariables false
attribute [local go_sem] BelowBy.cell BelowBy.cell_drew stillUpon givesUpon

/-- a set and an assembly that came in -/
structure SA (w : World) (G : Option Addr) (n : Nat) (T : Option Addr) (m : Nat) (A : Option Addr) (q : Nat) (gs : List Gl) (ts : List Ti) (xs : List Pl) : Prop where
  G : RdSl 2 RGl w G n gs
  T : RdSl 2 RTi w T m ts
  A : RdSl 3 RPl w A q xs
  gm : n ≤ 1073741824
  tm : m ≤ 1073741824
  q : q ≤ 1073741824
  gn : ∀ (k : Nat) (e : Gl), gs[k]? = some e → e.name.size ≤ 9223372036854775807
  tn : ∀ (k : Nat) (e : Ti), ts[k]? = some e → e.name.size ≤ 9223372036854775807 ∧ e.sides.length ≤ 9223372036854775807
section
variable {w w' : World} {G T A : Option Addr} {n cg m ct q ca : Nat} {gs : List Gl} {ts : List Ti} {xs : List Pl}
theorem SA.below (h : SA w G n T m A q gs ts xs) (hb : Below w.heap.size w w') : SA w' G n T m A q gs ts xs :=
  ⟨h.G.below RGl.stable hb, h.T.below RTi.stable hb, h.A.below RPl.stable hb, h.gm, h.tm, h.q, h.gn, h.tn⟩
theorem SA.valid {v : Bool} (h : SA w G n T m A q gs ts xs) (hv : validAsmB gs ts xs = v) :
    Calls Tryz.prog 53 #[.agg #[.slice G n cg, .slice T m ct], .agg #[.slice A q ca]] w fun e w' => e = .returned (.bool v) ∧ Below w.heap.size w w' := by
  rw [← hv]; exact ValidAssembly_any _ _ _ _ _ _ _ _ _ gs ts xs _ h.G h.T h.A (Nat.le_trans h.gm (by decide)) (Nat.le_trans h.tm (by decide)) h.q h.gn h.tn
theorem SA.bonds (h : SA w G n T m A q gs ts xs) (hV : Valid gs ts xs) :
    Calls Tryz.prog 45 #[.agg #[.slice G n cg, .slice T m ct], .agg #[.slice A q ca]] w fun e W' => ∃ v, e = .returned v ∧ W'.ownsRow w.heap.size 49 3 v (bondsL gs ts xs).length (bdCells (bondsL gs ts xs)) ∧ Below w.heap.size w W' :=
  bonds_any _ _ _ _ _ _ _ _ _ gs ts xs _ h.G h.T h.A hV
/-- the reference looks at them through pointers -/
structure SAt (w : World) (p op pa opa : Nat) (gs : List Gl) (ts : List Ti) (xs : List Pl) : Prop where
  s : SetAt w p op gs ts
  a : AsmAt w pa opa xs
  q : xs.length ≤ 1073741824
  gm : gs.length ≤ 1073741824
  tm : ts.length ≤ 1073741824
  gn : ∀ (k : Nat) (e : Gl), gs[k]? = some e → e.name.size ≤ 9223372036854775807
  tn : ∀ (k : Nat) (e : Ti), ts[k]? = some e → e.name.size ≤ 9223372036854775807 ∧ e.sides.length ≤ 9223372036854775807
theorem SAt.below {op opa : Nat} {p pa : Nat} (h : SAt w p op pa opa gs ts xs) (hb : Below w.heap.size w w') : SAt w' p op pa opa gs ts xs :=
  ⟨h.s.below hb, h.a.below hb, h.q, h.gm, h.tm, h.gn, h.tn⟩
theorem SA.box (h : SA w G n T m A q gs ts xs) (cg ct ca : Nat) : SAt ((w.alloc (Obj.cells #[.slice G n cg, .slice T m ct] 27)).alloc (Obj.cells #[.slice A q ca] 30)) w.heap.size 0 (w.heap.size + 1) 0 gs ts xs :=
  ⟨⟨by simp; omega, ⟨G, n, cg, by go_simp, h.G.below RGl.stable (by exact bel_)⟩, ⟨T, m, ct, by go_simp, h.T.below RTi.stable (by exact bel_)⟩⟩, ⟨by simp, A, q, ca, by go_simp, h.A.below RPl.stable (by exact bel_)⟩,
    by rw [h.A.len]; exact h.q, by rw [h.G.len]; exact h.gm, by rw [h.T.len]; exact h.tm, h.gn, h.tn⟩
theorem SAt.asked {op opa : Nat} {p pa : Nat} {v : Bool} (h : SAt w p op pa opa gs ts xs) (hv : validAsmB gs ts xs = v) :
    Calls Tryz.prog 77 #[.pointer (some ⟨p, op, none⟩), .pointer (some ⟨pa, opa, none⟩)] w fun e w' => e = .returned (.int .i64 (codeB v)) ∧ Below w.heap.size w w' :=
  l06Asked_at h.s h.a h.q (Nat.le_trans h.gm (by decide)) (Nat.le_trans h.tm (by decide)) h.gn h.tn hv
theorem SAt.bonds {op opa : Nat} {p pa : Nat} (h : SAt w p op pa opa gs ts xs) (hV : Valid gs ts xs) :
    Calls Tryz.prog 49 #[.pointer (some ⟨p, op, none⟩), .pointer (some ⟨pa, opa, none⟩)] w fun e W' => ∃ v, e = .returned v ∧ W'.ownsRow w.heap.size 49 3 v (bondsL gs ts xs).length (bdCells (bondsL gs ts xs)) ∧ Below w.heap.size w W' :=
  l06Bonds_any p pa gs ts xs w h.s h.a hV
end
theorem codeB_true : codeB true = 0 := rfl
theorem codeB_false : codeB false = 1 := rfl
theorem ownsRow_base {w : World} {base base' : Nat} {e : TypeId} {size : Nat} {v : Value} {n : Nat} {xs : List Value} (h : w.ownsRow base e size v n xs) (hb : base' ≤ base) : w.ownsRow base' e size v n xs :=
  ⟨h.1, h.2.imp id (fun ⟨g, cap, cur, h1, h2, h3⟩ => ⟨g, cap, cur, h1, Nat.le_trans hb h2, h3⟩)⟩
end Go.Proofs.YtmhgjgclclnmaaaGreat
