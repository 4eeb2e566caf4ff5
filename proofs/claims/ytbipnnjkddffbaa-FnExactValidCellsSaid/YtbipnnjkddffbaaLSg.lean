/- The laws' arguments, opened: a signal set, cells. -/
import Derived.Test.YtbipnnjkddffbaaKL
import Derived.Test.YtbipnnjkddffbaaSg1
namespace Go.Proofs.Ytbipnnjkddffbaa
open Go.RowKit Go.ChangeShapes Go.WideShapes Go.Deep
set_option linter.unusedSimpArgs false
set_option linter.unusedVariables false
section
variable {H : Type} {enc : TypeId × Value → H} {P : Program} {w : World} {base : Nat} {spare : Nat → Bool} {held : Bool}
theorem trod_four {t : TypeId} {f0 f1 f2 f3 : Field} {fuel : Nat} {cs : List Value} {x : DataW H × List MemPlace} (ht : P.underlying t = some (.struct #[f0, f1, f2, f3])) (h : DataW.trod enc P w base spare held fuel t cs = some x) :
    ∃ y0 y1 y2 y3 n, cs.length = P.cellsOf t ∧ DataW.trod enc P w base spare held n f0.type ((cs.drop f0.offset).take (P.cellsOf f0.type)) = some y0 ∧
      DataW.trod enc P w base spare held n f1.type ((cs.drop f1.offset).take (P.cellsOf f1.type)) = some y1 ∧ DataW.trod enc P w base spare held n f2.type ((cs.drop f2.offset).take (P.cellsOf f2.type)) = some y2 ∧
      DataW.trod enc P w base spare held n f3.type ((cs.drop f3.offset).take (P.cellsOf f3.type)) = some y3 := by
  obtain ⟨xs, n, _, rfl, hl, hlen, hf⟩ := DataW.trod_struct ht h
  match xs, hlen with
  | [y0, y1, y2, y3], _ => exact ⟨y0, y1, y2, y3, n, hl, by simpa using hf 0 f0 rfl, by simpa using hf 1 f1 rfl, by simpa using hf 2 f2 rfl, by simpa using hf 3 f3 rfl⟩
theorem trod_five {t : TypeId} {f0 f1 f2 f3 f4 : Field} {fuel : Nat} {cs : List Value} {x : DataW H × List MemPlace} (ht : P.underlying t = some (.struct #[f0, f1, f2, f3, f4])) (h : DataW.trod enc P w base spare held fuel t cs = some x) :
    ∃ y0 y1 y2 y3 y4 n, cs.length = P.cellsOf t ∧ DataW.trod enc P w base spare held n f0.type ((cs.drop f0.offset).take (P.cellsOf f0.type)) = some y0 ∧
      DataW.trod enc P w base spare held n f1.type ((cs.drop f1.offset).take (P.cellsOf f1.type)) = some y1 ∧ DataW.trod enc P w base spare held n f2.type ((cs.drop f2.offset).take (P.cellsOf f2.type)) = some y2 ∧
      DataW.trod enc P w base spare held n f3.type ((cs.drop f3.offset).take (P.cellsOf f3.type)) = some y3 ∧ DataW.trod enc P w base spare held n f4.type ((cs.drop f4.offset).take (P.cellsOf f4.type)) = some y4 := by
  obtain ⟨xs, n, _, rfl, hl, hlen, hf⟩ := DataW.trod_struct ht h
  match xs, hlen with
  | [y0, y1, y2, y3, y4], _ => exact ⟨y0, y1, y2, y3, y4, n, hl, by simpa using hf 0 f0 rfl, by simpa using hf 1 f1 rfl, by simpa using hf 2 f2 rfl, by simpa using hf 3 f3 rfl, by simpa using hf 4 f4 rfl⟩
end
section
variable {H : Type} {enc : TypeId × Value → H} {w : World} {base b0 : Nat} {spare : Nat → Bool} {held : Bool} {r : Reach} {v : Value} {d : DataW H} {p : List MemPlace}
theorem cells_bool : Try.prog.cellsOf 4 = 1 := by kernel_rfl
theorem el_bool (n : Nat) (cs : List Value) (z : DataW H × List MemPlace) (b o : Nat) (h : DataW.trod enc Try.prog w base spare held n 4 cs = some z) (hl : cs.length = 1) (hc : ∀ i, i < 1 → w.cell? ⟨b, o + i, none⟩ = cs[i]?) : ∃ x : Bool, RBool w b o x ∧ True := by
  obtain ⟨a, rfl, _⟩ := DataW.trod_bool Try.underlying4 h
  exact ⟨a, by have := hc 0 (by omega); simpa [RBool] using this, trivial⟩
set_option maxRecDepth 100000 in
theorem el_fi (n : Nat) (cs : List Value) (z : DataW H × List MemPlace) (b o : Nat) (h : DataW.trod enc Try.prog w base spare held n 213 cs = some z) (hl : cs.length = 2) (hc : ∀ i, i < 2 → w.cell? ⟨b, o + i, none⟩ = cs[i]?) : ∃ x : Fi, RFi w b o x ∧ True := by
  obtain ⟨y0, y1, m, rfl, _, h0, h1⟩ := trod_struct2 Try.underlying213 h
  have h0 : DataW.trod enc Try.prog w base spare held m 2 ((cs.drop 0).take (Try.prog.cellsOf 2)) = some y0 := h0
  have h1 : DataW.trod enc Try.prog w base spare held m 2 ((cs.drop 1).take (Try.prog.cellsOf 2)) = some y1 := h1
  rw [cells_i64] at h0 h1
  obtain ⟨x, e0, _, _⟩ := DataW.trod_int Try.underlying2 h0
  obtain ⟨y, e1, _, _⟩ := DataW.trod_int Try.underlying2 h1
  match cs, hl with
  | [v0, v1], _ =>
    simp at e0 e1
    subst e0 e1
    have g0 := hc 0 (by omega)
    have g1 := hc 1 (by omega)
    exact ⟨⟨x, y⟩, ⟨by simpa using g0, by simpa using g1⟩, trivial⟩
set_option maxRecDepth 100000 in
theorem el_sti (n : Nat) (cs : List Value) (z : DataW H × List MemPlace) (b o : Nat) (h : DataW.trod enc Try.prog w base spare held n 117 cs = some z) (hl : cs.length = 4) (hc : ∀ i, i < 4 → w.cell? ⟨b, o + i, none⟩ = cs[i]?) :
    ∃ x : Sti, RSti w b o x ∧ (x.name.size ≤ maxLen ∧ x.sides.length ≤ maxLen ∧ x.on.length ≤ maxLen ∧ x.fires.length ≤ maxLen) := by
  obtain ⟨y0, y1, y2, y3, m, _, h0, h1, h2, h3⟩ := trod_four Try.underlying117 h
  have h0 : DataW.trod enc Try.prog w base spare held m 9 ((cs.drop 0).take (Try.prog.cellsOf 9)) = some y0 := h0
  have h1 : DataW.trod enc Try.prog w base spare held m 52 ((cs.drop 1).take (Try.prog.cellsOf 52)) = some y1 := h1
  have h2 : DataW.trod enc Try.prog w base spare held m 67 ((cs.drop 2).take (Try.prog.cellsOf 67)) = some y2 := h2
  have h3 : DataW.trod enc Try.prog w base spare held m 115 ((cs.drop 3).take (Try.prog.cellsOf 115)) = some y3 := h3
  rw [show Try.prog.cellsOf 9 = 1 by kernel_rfl] at h0
  rw [show Try.prog.cellsOf 52 = 1 by kernel_rfl] at h1
  rw [show Try.prog.cellsOf 67 = 1 by kernel_rfl] at h2
  rw [show Try.prog.cellsOf 115 = 1 by kernel_rfl] at h3
  obtain ⟨s, e0, _, ws⟩ := DataW.trod_string Try.underlying9 h0
  match cs, hl with
  | [v0, v1, v2, v3], _ =>
    simp at e0 h1 h2 h3
    subst e0
    obtain ⟨A1, k1, c1, xs1, rfl, hx1, hk1, _⟩ := rd_slice (R := RInt) (Q := fun _ => True) Try.underlying52 cells_i64 (by omega) (fun n cs z b o h hl hc => el_int Try.underlying2 n cs z b o h hl hc) h1
    obtain ⟨A2, k2, c2, xs2, rfl, hx2, hk2, _⟩ := rd_slice (R := RBool) (Q := fun _ => True) Try.underlying67 cells_bool (by omega) (fun n cs z b o h hl hc => el_bool n cs z b o h hl hc) h2
    obtain ⟨A3, k3, c3, xs3, rfl, hx3, hk3, _⟩ := rd_slice (R := RFi) (Q := fun _ => True) Try.underlying115 (by kernel_rfl) (by omega) (fun n cs z b o h hl hc => el_fi n cs z b o h hl hc) h3
    have g0 := hc 0 (by omega)
    have g1 := hc 1 (by omega)
    have g2 := hc 2 (by omega)
    have g3 := hc 3 (by omega)
    exact ⟨⟨s, xs1, xs2, xs3⟩, ⟨by simpa using g0, ⟨A1, k1, c1, by simpa using g1, hx1⟩, ⟨A2, k2, c2, by simpa using g2, hx2⟩, ⟨A3, k3, c3, by simpa using g3, hx3⟩⟩, ws, by rw [hx1.len]; exact hk1, by rw [hx2.len]; exact hk2, by rw [hx3.len]; exact hk3⟩
set_option maxRecDepth 100000 in
theorem el_sc (n : Nat) (cs : List Value) (z : DataW H × List MemPlace) (b o : Nat) (h : DataW.trod enc Try.prog w base spare held n 69 cs = some z) (hl : cs.length = 6) (hc : ∀ i, i < 6 → w.cell? ⟨b, o + i, none⟩ = cs[i]?) :
    ∃ x : Sc, RSc w b o x ∧ (x.on.length ≤ maxLen ∧ x.bound.length ≤ maxLen ∧ x.fired.length ≤ maxLen) := by
  obtain ⟨y0, y1, y2, y3, y4, m, _, h0, h1, h2, h3, h4⟩ := trod_five Try.underlying69 h
  have h0 : DataW.trod enc Try.prog w base spare held m 66 ((cs.drop 0).take (Try.prog.cellsOf 66)) = some y0 := h0
  have h1 : DataW.trod enc Try.prog w base spare held m 2 ((cs.drop 2).take (Try.prog.cellsOf 2)) = some y1 := h1
  have h2 : DataW.trod enc Try.prog w base spare held m 67 ((cs.drop 3).take (Try.prog.cellsOf 67)) = some y2 := h2
  have h3 : DataW.trod enc Try.prog w base spare held m 67 ((cs.drop 4).take (Try.prog.cellsOf 67)) = some y3 := h3
  have h4 : DataW.trod enc Try.prog w base spare held m 67 ((cs.drop 5).take (Try.prog.cellsOf 67)) = some y4 := h4
  rw [show Try.prog.cellsOf 66 = 2 by kernel_rfl] at h0
  rw [cells_i64] at h1
  rw [show Try.prog.cellsOf 67 = 1 by kernel_rfl] at h2 h3 h4
  obtain ⟨z0, z1, m', _, _, k0, k1⟩ := trod_struct2 Try.underlying66 h0
  have k0 : DataW.trod enc Try.prog w base spare held m' 2 ((((cs.drop 0).take 2).drop 0).take (Try.prog.cellsOf 2)) = some z0 := k0
  have k1 : DataW.trod enc Try.prog w base spare held m' 2 ((((cs.drop 0).take 2).drop 1).take (Try.prog.cellsOf 2)) = some z1 := k1
  rw [cells_i64] at k0 k1
  obtain ⟨x, e0, _, _⟩ := DataW.trod_int Try.underlying2 k0
  obtain ⟨y, e1, _, _⟩ := DataW.trod_int Try.underlying2 k1
  obtain ⟨t, e2, _, _⟩ := DataW.trod_int Try.underlying2 h1
  match cs, hl with
  | [v0, v1, v2, v3, v4, v5], _ =>
    simp at e0 e1 e2 h2 h3 h4
    subst e0 e1 e2
    obtain ⟨A1, k1, c1, xs1, rfl, hx1, hk1, _⟩ := rd_slice (R := RBool) (Q := fun _ => True) Try.underlying67 cells_bool (by omega) (fun n cs z b o h hl hc => el_bool n cs z b o h hl hc) h2
    obtain ⟨A2, k2, c2, xs2, rfl, hx2, hk2, _⟩ := rd_slice (R := RBool) (Q := fun _ => True) Try.underlying67 cells_bool (by omega) (fun n cs z b o h hl hc => el_bool n cs z b o h hl hc) h3
    obtain ⟨A3, k3, c3, xs3, rfl, hx3, hk3, _⟩ := rd_slice (R := RBool) (Q := fun _ => True) Try.underlying67 cells_bool (by omega) (fun n cs z b o h hl hc => el_bool n cs z b o h hl hc) h4
    have g0 := hc 0 (by omega)
    have g1 := hc 1 (by omega)
    have g2 := hc 2 (by omega)
    have g3 := hc 3 (by omega)
    have g4 := hc 4 (by omega)
    have g5 := hc 5 (by omega)
    exact ⟨⟨x, y, t, xs1, xs2, xs3⟩, ⟨by simpa using g0, by simpa using g1, by simpa using g2, ⟨A1, _, c1, by simpa using g3, hx1⟩, ⟨A2, _, c2, by simpa using g4, hx2⟩, ⟨A3, _, c3, by simpa using g5, hx3⟩⟩, by rw [hx1.len]; exact hk1, by rw [hx2.len]; exact hk2, by rw [hx3.len]; exact hk3⟩
set_option maxRecDepth 100000 in
theorem open_sgset (hv : Value.okWide Try.prog w r b0 25 v) (h : DataW.Trod enc Try.prog w base spare held 25 v d p) :
    ∃ G n cg gs T m ct ts, v = .agg #[.slice G n cg, .slice T m ct] ∧ RdSl 2 RGl w G n gs ∧ n ≤ maxLen ∧ (∀ e ∈ gs, e.name.size ≤ maxLen) ∧ RdSl 4 RSti w T m ts ∧ m ≤ maxLen ∧ ∀ e ∈ ts, e.name.size ≤ maxLen ∧ e.sides.length ≤ maxLen ∧ e.on.length ≤ maxLen ∧ e.fires.length ≤ maxLen :=
  open_sl2 (R := RGl) (Q := fun e => e.name.size ≤ maxLen) (R' := RSti) (Q' := fun e => e.name.size ≤ maxLen ∧ e.sides.length ≤ maxLen ∧ e.on.length ≤ maxLen ∧ e.fires.length ≤ maxLen) Try.underlying25 rfl rfl Try.underlying22 Try.underlying23 (by kernel_rfl) (by kernel_rfl) (by kernel_rfl) (by kernel_rfl) (by kernel_rfl) (by omega) (by omega)
    (fun n cs z b o h hl hc => el_gl Try.underlying113 rfl rfl Try.underlying9 Try.underlying2 (by kernel_rfl) cells_i64 n cs z b o h hl hc)
    (fun n cs z b o h hl hc => el_sti n cs z b o h hl hc) hv h
set_option maxRecDepth 100000 in
theorem open_cells (hv : Value.okWide Try.prog w r b0 26 v) (h : DataW.Trod enc Try.prog w base spare held 26 v d p) :
    ∃ A n c xs, v = .slice A n c ∧ RdSl 6 RSc w A n xs ∧ n ≤ maxLen ∧ ∀ x ∈ xs, x.on.length ≤ maxLen ∧ x.bound.length ≤ maxLen ∧ x.fired.length ≤ maxLen :=
  open_sl (R := RSc) (Q := fun x => x.on.length ≤ maxLen ∧ x.bound.length ≤ maxLen ∧ x.fired.length ≤ maxLen) Try.underlying26 (by kernel_rfl) (by omega)
    (fun n cs z b o h hl hc => el_sc n cs z b o h hl hc) hv h
end
end Go.Proofs.Ytbipnnjkddffbaa
