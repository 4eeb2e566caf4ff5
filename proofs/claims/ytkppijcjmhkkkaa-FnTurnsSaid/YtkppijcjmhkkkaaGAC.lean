import Derived.Test.YtkppijcjmhkkkaaGAB
import Derived.Lib.SlicesS
import Derived.Test.YtkppijcjmhkkkaaGAA
set_option linter.unusedSimpArgs false
set_option linter.unusedVariables false
/- Walks: the reference's functions on sets. -/


namespace Go.Proofs.Ytkppijcjmhkkkaa
open Go.RowKit
attribute [local go_sem] BelowBy.cell BelowBy.cell_drew stillUpon givesUpon
/-- A tile set lies in block p. -/
structure SetAt (w : World) (p op : Nat) (gs : List Gl) (ts : List Ti) : Prop where
  lt : p < w.heap.size
  gl : ∃ A n c, w.cell? ⟨p, op, none⟩ = some (.slice A n c) ∧ RdSl 2 RGl w A n gs
  ti : ∃ A n c, w.cell? ⟨p, op + 1, none⟩ = some (.slice A n c) ∧ RdSl 2 RTi w A n ts
theorem SetAt.below {op : Nat} {w w' : World} {p : Nat} {gs : List Gl} {ts : List Ti} (h : SetAt w p op gs ts) (hb : Below w.heap.size w w') : SetAt w' p op gs ts := by
  obtain ⟨A, n, c, h1, h2⟩ := h.gl
  obtain ⟨B, m, d, h3, h4⟩ := h.ti
  exact ⟨Nat.lt_of_lt_of_le h.lt hb.size, ⟨A, n, c, (hb.cell (p := ⟨p, op, none⟩) h.lt).trans h1, h2.below RGl.stable hb⟩, ⟨B, m, d, (hb.cell (p := ⟨p, op + 1, none⟩) h.lt).trans h3, h4.below RTi.stable hb⟩⟩
/-- no earlier glue has the name of glue j -/
def freshG (gs : List Gl) (j : Nat) : Bool := match gs[j]? with
  | none => true
  | some g => allB j (fun i => match gs[i]? with | none => true | some e => decide (e.name ≠ g.name))
def freshT (ts : List Ti) (j : Nat) : Bool := match ts[j]? with
  | none => true
  | some g => allB j (fun i => match ts[i]? with | none => true | some e => decide (e.name ≠ g.name))
theorem freshG_true {gs : List Gl} {j : Nat} {g : Gl} (hj : gs[j]? = some g) (h : ∀ i, i < j → ∀ e, gs[i]? = some e → e.name ≠ g.name) : freshG gs j = true := by
  unfold freshG; rw [hj]
  exact allB_true fun i hi => by
    cases he : gs[i]? with
    | none => simp [he]
    | some e => simpa [he] using h i hi e he
theorem freshG_false {gs : List Gl} {i j : Nat} {g e : Gl} (hj : gs[j]? = some g) (hi : i < j) (he : gs[i]? = some e) (h : e.name = g.name) : freshG gs j = false := by
  unfold freshG; rw [hj]
  exact allB_false hi (by simp [he, h])
theorem freshT_true {ts : List Ti} {j : Nat} {g : Ti} (hj : ts[j]? = some g) (h : ∀ i, i < j → ∀ e, ts[i]? = some e → e.name ≠ g.name) : freshT ts j = true := by
  unfold freshT; rw [hj]
  exact allB_true fun i hi => by
    cases he : ts[i]? with
    | none => simp [he]
    | some e => simpa [he] using h i hi e he
theorem freshT_false {ts : List Ti} {i j : Nat} {g e : Ti} (hj : ts[j]? = some g) (hi : i < j) (he : ts[i]? = some e) (h : e.name = g.name) : freshT ts j = false := by
  unfold freshT; rw [hj]
  exact allB_false hi (by simp [he, h])
def okGl (gs : List Gl) (j : Nat) : Bool := match gs[j]? with
  | none => true
  | some g => isNameB g.name && (inB g.s 1 4 && freshG gs j)
def okSide (n : Nat) (xs : List Int) (j : Nat) : Bool := match xs[j]? with
  | none => true
  | some x => inB x 0 n
def okTi (n : Nat) (ts : List Ti) (j : Nat) : Bool := match ts[j]? with
  | none => true
  | some t => isNameB t.name && (decide (t.sides.length = 4) && (freshT ts j && allB t.sides.length (okSide n t.sides)))
def validSetB (gs : List Gl) (ts : List Ti) : Bool := (decide (gs.length ≤ 200) && (decide (1 ≤ ts.length) && decide (ts.length ≤ 160))) && (allB gs.length (okGl gs) && allB ts.length (okTi gs.length ts))
end Go.Proofs.Ytkppijcjmhkkkaa
/- Walks: the reference's check of a set. -/

namespace Go.Proofs.Ytkppijcjmhkkkaa
open Go.RowKit
attribute [local go_sem] BelowBy.cell BelowBy.cell_drew stillUpon givesUpon
theorem neq_t {r a : Int} {b : Bool} (h : (r == a) = b) (hb : b = true) : (r != a) = false := by subst hb; simpa using h
theorem neq_f {r a : Int} {b : Bool} (h : (r == a) = b) (hb : b = false) : (r != a) = true := by subst hb; simpa using h
theorem okGl_eq {gs : List Gl} {j : Nat} {g : Gl} (h : gs[j]? = some g) : okGl gs j = (isNameB g.name && (inB g.s 1 4 && freshG gs j)) := by unfold okGl; rw [h]
theorem okTi_eq {n : Nat} {ts : List Ti} {j : Nat} {t : Ti} (h : ts[j]? = some t) : okTi n ts j = (isNameB t.name && (decide (t.sides.length = 4) && (freshT ts j && allB t.sides.length (okSide n t.sides)))) := by unfold okTi; rw [h]
theorem validSetB_gl {gs : List Gl} {ts : List Ti} {k : Nat} (hk : k < gs.length) (h : okGl gs k = false) : validSetB gs ts = false := by
  unfold validSetB; rw [allB_false hk h]; simp
theorem validSetB_ti {gs : List Gl} {ts : List Ti} {k : Nat} (hk : k < ts.length) (h : okTi gs.length ts k = false) : validSetB gs ts = false := by
  unfold validSetB; rw [allB_false hk h]; simp
theorem validSetB_ok {gs : List Gl} {ts : List Ti} (h1 : gs.length ≤ 200) (h2 : 1 ≤ ts.length) (h3 : ts.length ≤ 160) (hg : ∀ j, j < gs.length → okGl gs j = true) (ht : ∀ j, j < ts.length → okTi gs.length ts j = true) : validSetB gs ts = true := by
  unfold validSetB; rw [allB_true hg, allB_true ht]; simp [h1, h2, h3]
theorem validSetB_size {gs : List Gl} {ts : List Ti} (h : ¬ (gs.length ≤ 200 ∧ 1 ≤ ts.length ∧ ts.length ≤ 160)) : validSetB gs ts = false := by
  unfold validSetB
  have : (decide (gs.length ≤ 200) && (decide (1 ≤ ts.length) && decide (ts.length ≤ 160))) = false := by
    rw [Bool.eq_false_iff]; intro hh; apply h; simpa using hh
  rw [this]; rfl
end Go.Proofs.Ytkppijcjmhkkkaa
/- Walks: the closures of the program's checks. -/


namespace Go.Proofs.Ytkppijcjmhkkkaa
open Go.RowKit
attribute [local go_sem] BelowBy.cell BelowBy.cell_drew stillUpon givesUpon
/-- what IndexFunc says of a list and a test -/
def FirstRes (w : World) (n : Nat) (ok : Nat → Bool) (e : Ending) (w' : World) : Prop := ∃ r : Int, e = .returned (.int .i64 r) ∧ decide (0 ≤ r) = (!allB n ok) ∧ Below w.heap.size w w'
def okTile (m : Nat) (xs : List Pl) (j : Nat) : Bool := match xs[j]? with
  | none => true
  | some e => inB e.t 0 (m - 1)
end Go.Proofs.Ytkppijcjmhkkkaa
