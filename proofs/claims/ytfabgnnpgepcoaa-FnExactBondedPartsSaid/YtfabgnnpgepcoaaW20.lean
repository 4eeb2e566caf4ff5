/- Walks: BondsOf, the program's and the reference's. -/
import Derived.Test.YtfabgnnpgepcoaaW18
namespace Go.Proofs.Ytfabgnnpgepcoaa
open Go.RowKit Go.Shelf
set_option linter.unusedSimpArgs false
set_option linter.unusedVariables false
attribute [local go_sem] BelowBy.cell BelowBy.cell_drew stillUpon givesUpon BelowBy.cell_drew2 BelowBy.cell_drew3

/-- a set and an assembly that came in -/
structure SA (w : World) (G : Option Addr) (n : Nat) (T : Option Addr) (m : Nat) (A : Option Addr) (q : Nat) (gs : List Gl) (ts : List Ti) (xs : List Pl) : Prop where
  G : RdSl 2 RGl w G n gs
  T : RdSl 2 RTi w T m ts
  A : RdSl 3 RPl w A q xs
  gm : n ≤ 1073741824
  tm : m ≤ 1073741824
  q : q ≤ 1073741824
  gn : ∀ (k : Nat) (e : Gl), gs[k]? = some e → e.name.size ≤ 9223372036854775807
  tn : ∀ (k : Nat) (e : Ti), ts[k]? = some e → e.name.size ≤ 9223372036854775807 ∧ e.sides.length ≤ 9223372036854775807
section
variable {w w' : World} {G T A : Option Addr} {n cg m ct q ca : Nat} {gs : List Gl} {ts : List Ti} {xs : List Pl}
theorem SA.below (h : SA w G n T m A q gs ts xs) (hb : Below w.heap.size w w') : SA w' G n T m A q gs ts xs :=
  ⟨h.G.below RGl.stable hb, h.T.below RTi.stable hb, h.A.below RPl.stable hb, h.gm, h.tm, h.q, h.gn, h.tn⟩
theorem SA.valid {v : Bool} (h : SA w G n T m A q gs ts xs) (hv : validAsmB gs ts xs = v) :
    Calls Try.prog 74 #[.agg #[.slice G n cg, .slice T m ct], .agg #[.slice A q ca]] w fun e w' => e = .returned (.bool v) ∧ Below w.heap.size w w' := by
  rw [← hv]; exact ValidAssembly_any _ _ _ _ _ _ _ _ _ gs ts xs _ h.G h.T h.A (Nat.le_trans h.gm (by decide)) (Nat.le_trans h.tm (by decide)) h.q h.gn h.tn
theorem SA.bonds (h : SA w G n T m A q gs ts xs) (hV : Valid gs ts xs) :
    Calls Try.prog 66 #[.agg #[.slice G n cg, .slice T m ct], .agg #[.slice A q ca]] w fun e W' => ∃ v, e = .returned v ∧ W'.ownsRow w.heap.size 96 3 v (bondsL gs ts xs).length (bdCells (bondsL gs ts xs)) ∧ Below w.heap.size w W' :=
  bonds_any _ _ _ _ _ _ _ _ _ gs ts xs _ h.G h.T h.A hV
/-- the reference looks at them through pointers -/
structure SAt (w : World) (p pa : Nat) (gs : List Gl) (ts : List Ti) (xs : List Pl) : Prop where
  s : SetAt w p gs ts
  a : AsmAt w pa xs
  q : xs.length ≤ 1073741824
  gm : gs.length ≤ 1073741824
  tm : ts.length ≤ 1073741824
  gn : ∀ (k : Nat) (e : Gl), gs[k]? = some e → e.name.size ≤ 9223372036854775807
  tn : ∀ (k : Nat) (e : Ti), ts[k]? = some e → e.name.size ≤ 9223372036854775807 ∧ e.sides.length ≤ 9223372036854775807
theorem SAt.below {p pa : Nat} (h : SAt w p pa gs ts xs) (hb : Below w.heap.size w w') : SAt w' p pa gs ts xs :=
  ⟨h.s.below hb, h.a.below hb, h.q, h.gm, h.tm, h.gn, h.tn⟩
theorem SA.box (h : SA w G n T m A q gs ts xs) (cg ct ca : Nat) : SAt ((w.alloc (Obj.cells #[.slice G n cg, .slice T m ct] 37)).alloc (Obj.cells #[.slice A q ca] 41)) w.heap.size (w.heap.size + 1) gs ts xs :=
  ⟨⟨by simp; omega, ⟨G, n, cg, by go_simp, h.G.below RGl.stable (by repeat (first | with_reducible exact bl_refl _ | with_reducible assumption | with_reducible refine bl_al ?_ _ | with_reducible refine bl_dr ?_ | with_reducible refine bl_tr ?_ (by assumption) | with_reducible refine bl_set ?_ ?_ _ | with_reducible exact Nat.le_refl _ | omega | (simp only [World.size_alloc, World.size_setCell, World.size_drew] at *; omega) | (dsimp only; omega) | (simp; done) | (simp; omega)))⟩, ⟨T, m, ct, by go_simp, h.T.below RTi.stable (by repeat (first | with_reducible exact bl_refl _ | with_reducible assumption | with_reducible refine bl_al ?_ _ | with_reducible refine bl_dr ?_ | with_reducible refine bl_tr ?_ (by assumption) | with_reducible refine bl_set ?_ ?_ _ | with_reducible exact Nat.le_refl _ | omega | (simp only [World.size_alloc, World.size_setCell, World.size_drew] at *; omega) | (dsimp only; omega) | (simp; done) | (simp; omega)))⟩⟩, ⟨by simp, A, q, ca, by go_simp, h.A.below RPl.stable (by repeat (first | with_reducible exact bl_refl _ | with_reducible assumption | with_reducible refine bl_al ?_ _ | with_reducible refine bl_dr ?_ | with_reducible refine bl_tr ?_ (by assumption) | with_reducible refine bl_set ?_ ?_ _ | with_reducible exact Nat.le_refl _ | omega | (simp only [World.size_alloc, World.size_setCell, World.size_drew] at *; omega) | (dsimp only; omega) | (simp; done) | (simp; omega)))⟩,
    by rw [h.A.len]; exact h.q, by rw [h.G.len]; exact h.gm, by rw [h.T.len]; exact h.tm, h.gn, h.tn⟩
theorem SAt.asked {p pa : Nat} {v : Bool} (h : SAt w p pa gs ts xs) (hv : validAsmB gs ts xs = v) :
    Calls Try.prog 59 #[.pointer (some ⟨p, 0, none⟩), .pointer (some ⟨pa, 0, none⟩)] w fun e w' => e = .returned (.int .i64 (codeB v)) ∧ Below w.heap.size w w' :=
  l06Asked_at h.s h.a h.q (Nat.le_trans h.gm (by decide)) (Nat.le_trans h.tm (by decide)) h.gn h.tn hv
theorem SAt.bonds {p pa : Nat} (h : SAt w p pa gs ts xs) (hV : Valid gs ts xs) :
    Calls Try.prog 61 #[.pointer (some ⟨p, 0, none⟩), .pointer (some ⟨pa, 0, none⟩)] w fun e W' => ∃ v, e = .returned v ∧ W'.ownsRow w.heap.size 96 3 v (bondsL gs ts xs).length (bdCells (bondsL gs ts xs)) ∧ Below w.heap.size w W' :=
  l06Bonds_any p pa gs ts xs w h.s h.a hV
end
theorem codeB_true : codeB true = 0 := rfl
theorem codeB_false : codeB false = 1 := rfl
/-- a row of bonds and a code -/
def BdsRes (w : World) (r : List Bd × Int) (e : Ending) (w' : World) : Prop :=
  ∃ A c, e = .returned (.tuple #[.slice A r.1.length c, .int .i64 r.2]) ∧ w'.ownsRow w.heap.size 96 3 (.slice A r.1.length c) r.1.length (bdCells r.1) ∧ Below w.heap.size w w'
theorem BdsRes.of {w w' : World} {r : List Bd × Int} {bs : List Bd} {c : Int} {v : Value} (h : (bs, c) = r) (hr : w'.ownsRow w.heap.size 96 3 v bs.length (bdCells bs)) (hb : Below w.heap.size w w') : BdsRes w r (.returned (.tuple #[v, .int .i64 c])) w' := by
  subst h
  obtain ⟨A, cap, rfl, _⟩ := rd_of_row hr
  exact ⟨A, cap, rfl, hr, hb⟩
noncomputable def bondsOfR (gs : List Gl) (ts : List Ti) (xs : List Pl) : List Bd × Int := if validAsmB gs ts xs = true then (bondsL gs ts xs, 0) else ([], 1)
theorem bondsOfR_no {gs : List Gl} {ts : List Ti} {xs : List Pl} (h : validAsmB gs ts xs = false) : (([], 1) : List Bd × Int) = bondsOfR gs ts xs := by unfold bondsOfR; rw [h, if_neg (by decide)]
theorem bondsOfR_yes {gs : List Gl} {ts : List Ti} {xs : List Pl} (h : validAsmB gs ts xs = true) : ((bondsL gs ts xs, 0) : List Bd × Int) = bondsOfR gs ts xs := by unfold bondsOfR; rw [h, if_pos rfl]
theorem ownsRow_base {w : World} {base base' : Nat} {e : TypeId} {size : Nat} {v : Value} {n : Nat} {xs : List Value} (h : w.ownsRow base e size v n xs) (hb : base' ≤ base) : w.ownsRow base' e size v n xs :=
  ⟨h.1, h.2.imp id (fun ⟨g, cap, cur, h1, h2, h3⟩ => ⟨g, cap, cur, h1, Nat.le_trans hb h2, h3⟩)⟩
set_option maxRecDepth 100000 in
set_option maxHeartbeats 1000000 in
theorem BondsOf_any (G T A : Option Addr) (n cg m ct q ca : Nat) (gs : List Gl) (ts : List Ti) (xs : List Pl) (w : World) (h : SA w G n T m A q gs ts xs) :
    Calls Try.prog 50 #[.agg #[.slice G n cg, .slice T m ct], .agg #[.slice A q ca]] w (BdsRes w (bondsOfR gs ts xs)) := by
  have h := Lib.hid h
  cases hv : validAsmB gs ts xs
  · have hvH := Lib.hid hv
    clear hv
    go_enter Try.func50, Try.ntmps50
    go_wp2_with fail
    refine ((h.out.below (by repeat (first | with_reducible exact bl_refl _ | with_reducible assumption | with_reducible refine bl_al ?_ _ | with_reducible refine bl_dr ?_ | with_reducible refine bl_tr ?_ (by assumption) | with_reducible refine bl_set ?_ ?_ _ | with_reducible exact Nat.le_refl _ | omega | (simp only [World.size_alloc, World.size_setCell, World.size_drew] at *; omega) | (dsimp only; omega) | (simp; done) | (simp; omega)))).valid hvH.out).mono ?_
    rintro e w1 ⟨rfl, hb1⟩
    go_wp2
    go_ret2
    exact BdsRes.of (bondsOfR_no hvH.out) (World.ownsRow_nil _ _ _ _) (by repeat (first | with_reducible exact bl_refl _ | with_reducible assumption | with_reducible refine bl_al ?_ _ | with_reducible refine bl_dr ?_ | with_reducible refine bl_tr ?_ (by assumption) | with_reducible refine bl_set ?_ ?_ _ | with_reducible exact Nat.le_refl _ | omega | (simp only [World.size_alloc, World.size_setCell, World.size_drew] at *; omega) | (dsimp only; omega) | (simp; done) | (simp; omega)))
  · have hvH := Lib.hid hv
    have hV := valid_of hv
    clear hv
    go_enter Try.func50, Try.ntmps50
    go_wp2_with fail
    refine ((h.out.below (by repeat (first | with_reducible exact bl_refl _ | with_reducible assumption | with_reducible refine bl_al ?_ _ | with_reducible refine bl_dr ?_ | with_reducible refine bl_tr ?_ (by assumption) | with_reducible refine bl_set ?_ ?_ _ | with_reducible exact Nat.le_refl _ | omega | (simp only [World.size_alloc, World.size_setCell, World.size_drew] at *; omega) | (dsimp only; omega) | (simp; done) | (simp; omega)))).valid hvH.out).mono ?_
    rintro e w1 ⟨rfl, hb1⟩
    obtain ⟨chb1, fhb1, shb1, thb1⟩ := bcell hb1
    go_wp2_with fail
    refine ((h.out.below (by repeat (first | with_reducible exact bl_refl _ | with_reducible assumption | with_reducible refine bl_al ?_ _ | with_reducible refine bl_dr ?_ | with_reducible refine bl_tr ?_ (by assumption) | with_reducible refine bl_set ?_ ?_ _ | with_reducible exact Nat.le_refl _ | omega | (simp only [World.size_alloc, World.size_setCell, World.size_drew] at *; omega) | (dsimp only; omega) | (simp; done) | (simp; omega)))).bonds hV).mono ?_
    rintro e w2 ⟨v, rfl, hrow, hb2⟩
    have hz : w.heap.size ≤ w1.heap.size := by have := hb1.size; simp at this; omega
    have hrowH := Lib.hid hrow
    clear hrow
    go_wp2
    go_ret2
    exact BdsRes.of (bondsOfR_yes hvH.out) (ownsRow_base hrowH.out hz) (by repeat (first | with_reducible exact bl_refl _ | with_reducible assumption | with_reducible refine bl_al ?_ _ | with_reducible refine bl_dr ?_ | with_reducible refine bl_tr ?_ (by assumption) | with_reducible refine bl_set ?_ ?_ _ | with_reducible exact Nat.le_refl _ | omega | (simp only [World.size_alloc, World.size_setCell, World.size_drew] at *; omega) | (dsimp only; omega) | (simp; done) | (simp; omega)))
set_option maxRecDepth 100000 in
set_option maxHeartbeats 1000000 in
theorem sBondsOf_any (G T A : Option Addr) (n cg m ct q ca : Nat) (gs : List Gl) (ts : List Ti) (xs : List Pl) (w : World) (h : SA w G n T m A q gs ts xs) :
    Calls Try.prog 49 #[.agg #[.slice G n cg, .slice T m ct], .agg #[.slice A q ca]] w (BdsRes w (bondsOfR gs ts xs)) := by
  have h0 := Lib.hid (h.box cg ct ca)
  clear h
  have hc1 := codeB_true
  have hc2 := codeB_false
  cases hv : validAsmB gs ts xs
  · have hvH := Lib.hid hv
    clear hv
    go_enter Try.func49, Try.ntmps49
    go_wp2_with fail
    refine (h0.out.asked hvH.out).mono ?_
    rintro e w1 ⟨rfl, hb1⟩
    go_wp2
    go_ret2
    exact BdsRes.of (bondsOfR_no hvH.out) (World.ownsRow_nil _ _ _ _) (by repeat (first | with_reducible exact bl_refl _ | with_reducible assumption | with_reducible refine bl_al ?_ _ | with_reducible refine bl_dr ?_ | with_reducible refine bl_tr ?_ (by assumption) | with_reducible refine bl_set ?_ ?_ _ | with_reducible exact Nat.le_refl _ | omega | (simp only [World.size_alloc, World.size_setCell, World.size_drew] at *; omega) | (dsimp only; omega) | (simp; done) | (simp; omega)))
  · have hvH := Lib.hid hv
    have hV := valid_of hv
    clear hv
    go_enter Try.func49, Try.ntmps49
    go_wp2_with fail
    refine (h0.out.asked hvH.out).mono ?_
    rintro e w1 ⟨rfl, hb1⟩
    go_wp2_with fail
    refine ((h0.out.below hb1).bonds hV).mono ?_
    rintro e w2 ⟨v, rfl, hrow, hb2⟩
    have hz : w.heap.size ≤ w1.heap.size := by have := hb1.size; simp at this; omega
    have hrowH := Lib.hid hrow
    clear hrow
    go_wp2
    go_ret2
    exact BdsRes.of (bondsOfR_yes hvH.out) (ownsRow_base hrowH.out hz) (by repeat (first | with_reducible exact bl_refl _ | with_reducible assumption | with_reducible refine bl_al ?_ _ | with_reducible refine bl_dr ?_ | with_reducible refine bl_tr ?_ (by assumption) | with_reducible refine bl_set ?_ ?_ _ | with_reducible exact Nat.le_refl _ | omega | (simp only [World.size_alloc, World.size_setCell, World.size_drew] at *; omega) | (dsimp only; omega) | (simp; done) | (simp; omega)))
end Go.Proofs.Ytfabgnnpgepcoaa
