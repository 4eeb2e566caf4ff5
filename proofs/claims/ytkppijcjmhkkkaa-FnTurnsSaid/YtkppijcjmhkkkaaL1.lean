/- From what a row reads to the lists of the walks: the elements; the arguments behind the call. -/
import Derived.Test.YtkppijcjmhkkkaaL0
import Derived.Test.YtkppijcjmhkkkaaProg
import Derived.Carry
import Derived.OpenShut
import Derived.ProofKit
namespace Go.Proofs.Ytkppijcjmhkkkaa
open Go.RowKit Go.ChangeShapes Go.WideShapes Go.Deep
set_option linter.unusedSimpArgs false
set_option linter.unusedVariables false
section
variable {H : Type} {enc : TypeId × Value → H} {P : Program} {w : World} {base : Nat} {spare : Nat → Bool} {held : Bool}
theorem el_int {t : TypeId} (ht : P.underlying t = some (.int .i64)) (n : Nat) (cs : List Value) (z : DataW H × List MemPlace) (b o : Nat) (h : DataW.trod enc P w base spare held n t cs = some z) (hl : cs.length = 1) (hc : ∀ i, i < 1 → w.cell? ⟨b, o + i, none⟩ = cs[i]?) : ∃ x : Int, RInt w b o x ∧ True := by
  obtain ⟨a, rfl, _, _⟩ := DataW.trod_int ht h
  exact ⟨a, by have := hc 0 (by omega); simpa [RInt] using this, trivial⟩
theorem el_int_wf {t : TypeId} (ht : P.underlying t = some (.int .i64)) (n : Nat) (cs : List Value) (z : DataW H × List MemPlace) (b o : Nat) (h : DataW.trod enc P w base spare held n t cs = some z) (hl : cs.length = 1) (hc : ∀ i, i < 1 → w.cell? ⟨b, o + i, none⟩ = cs[i]?) : ∃ x : Int, RInt w b o x ∧ (Lit.int .i64 x).wf = true := by
  obtain ⟨a, rfl, _, ha⟩ := DataW.trod_int ht h
  exact ⟨a, by have := hc 0 (by omega); simpa [RInt] using this, ha⟩
theorem el_gl {t : TypeId} {f0 f1 : Field} (ht : P.underlying t = some (.struct #[f0, f1])) (o0 : f0.offset = 0) (o1 : f1.offset = 1) (t0 : P.underlying f0.type = some .string) (t1 : P.underlying f1.type = some (.int .i64)) (c0 : P.cellsOf f0.type = 1) (c1 : P.cellsOf f1.type = 1)
    (n : Nat) (cs : List Value) (z : DataW H × List MemPlace) (b o : Nat) (h : DataW.trod enc P w base spare held n t cs = some z) (hl : cs.length = 2) (hc : ∀ i, i < 2 → w.cell? ⟨b, o + i, none⟩ = cs[i]?) : ∃ x : Gl, RGl w b o x ∧ x.name.size ≤ maxLen := by
  obtain ⟨y0, y1, m, rfl, _, h0, h1⟩ := trod_struct2 ht h
  rw [o0, c0] at h0
  rw [o1, c1] at h1
  obtain ⟨s, e0, _, ws⟩ := DataW.trod_string t0 h0
  obtain ⟨a, e1, _, wa⟩ := DataW.trod_int t1 h1
  match cs, hl with
  | [v0, v1], _ =>
    simp at e0 e1
    subst e0 e1
    have g0 := hc 0 (by omega)
    have g1 := hc 1 (by omega)
    exact ⟨⟨s, a⟩, ⟨by simpa using g0, by simpa using g1⟩, ws⟩
theorem el_ti {t : TypeId} {f0 f1 : Field} {e : TypeId} (ht : P.underlying t = some (.struct #[f0, f1])) (o0 : f0.offset = 0) (o1 : f1.offset = 1) (t0 : P.underlying f0.type = some .string) (t1 : P.underlying f1.type = some (.slice e)) (te : P.underlying e = some (.int .i64)) (c0 : P.cellsOf f0.type = 1) (c1 : P.cellsOf f1.type = 1) (ce : P.cellsOf e = 1)
    (n : Nat) (cs : List Value) (z : DataW H × List MemPlace) (b o : Nat) (h : DataW.trod enc P w base spare held n t cs = some z) (hl : cs.length = 2) (hc : ∀ i, i < 2 → w.cell? ⟨b, o + i, none⟩ = cs[i]?) : ∃ x : Ti, RTi w b o x ∧ (x.name.size ≤ maxLen ∧ x.sides.length ≤ maxLen) := by
  obtain ⟨y0, y1, m, rfl, _, h0, h1⟩ := trod_struct2 ht h
  rw [o0, c0] at h0
  rw [o1, c1] at h1
  obtain ⟨s, e0, _, ws⟩ := DataW.trod_string t0 h0
  match cs, hl with
  | [v0, v1], _ =>
    simp at e0 h1
    subst e0
    obtain ⟨A, k, c, xs, rfl, hx, hk, _⟩ := rd_slice (R := RInt) (Q := fun _ => True) t1 ce (by omega) (fun n cs z b o h hl hc => el_int te n cs z b o h hl hc) h1
    have g0 := hc 0 (by omega)
    have g1 := hc 1 (by omega)
    exact ⟨⟨s, xs⟩, ⟨by simpa using g0, A, k, c, by simpa using g1, hx⟩, ws, by rw [hx.len]; exact hk⟩
theorem el_pl {t : TypeId} {f0 f1 g0 g1 : Field} (ht : P.underlying t = some (.struct #[f0, f1])) (o0 : f0.offset = 0) (o1 : f1.offset = 2) (t0 : P.underlying f0.type = some (.struct #[g0, g1])) (t1 : P.underlying f1.type = some (.int .i64)) (p0 : g0.offset = 0) (p1 : g1.offset = 1) (u0 : P.underlying g0.type = some (.int .i64)) (u1 : P.underlying g1.type = some (.int .i64))
    (c0 : P.cellsOf f0.type = 2) (c1 : P.cellsOf f1.type = 1) (d0 : P.cellsOf g0.type = 1) (d1 : P.cellsOf g1.type = 1)
    (n : Nat) (cs : List Value) (z : DataW H × List MemPlace) (b o : Nat) (h : DataW.trod enc P w base spare held n t cs = some z) (hl : cs.length = 3) (hc : ∀ i, i < 3 → w.cell? ⟨b, o + i, none⟩ = cs[i]?) : ∃ x : Pl, RPl w b o x ∧ True := by
  obtain ⟨y0, y1, m, rfl, _, h0, h1⟩ := trod_struct2 ht h
  rw [o0, c0] at h0
  rw [o1, c1] at h1
  obtain ⟨z0, z1, m', rfl, _, k0, k1⟩ := trod_struct2 t0 h0
  rw [p0, d0] at k0
  rw [p1, d1] at k1
  obtain ⟨x, e0, _, _⟩ := DataW.trod_int u0 k0
  obtain ⟨y, e1, _, _⟩ := DataW.trod_int u1 k1
  obtain ⟨ti, e2, _, _⟩ := DataW.trod_int t1 h1
  match cs, hl with
  | [v0, v1, v2], _ =>
    simp at e0 e1 e2
    subst e0 e1 e2
    have g0 := hc 0 (by omega)
    have g1 := hc 1 (by omega)
    have g2 := hc 2 (by omega)
    exact ⟨⟨x, y, ti⟩, ⟨by simpa using g0, by simpa using g1, by simpa using g2⟩, trivial⟩
/-- a struct by value, its cells in one list -/
theorem open_struct {r : Reach} {b0 : Nat} {t : TypeId} {fs : Array Field} {v : Value} {d : DataW H} {p : List MemPlace} (hs : P.underlying t = some (.struct fs)) (hv : Value.okWide P w r b0 t v) (h : DataW.Trod enc P w base spare held t v d p) :
    ∃ cs fuel, v = .agg ⟨cs⟩ ∧ cs.length = P.cellsOf t ∧ DataW.trod enc P w base spare held fuel t cs = some (d, p) := by
  obtain ⟨cs, rfl, hsz⟩ := okWide_struct hs hv
  obtain ⟨fuel, hf⟩ := h
  obtain ⟨cs⟩ := cs
  exact ⟨cs, fuel, rfl, by simpa using hsz, by simpa [Value.cells] using hf⟩
/-- a struct of one slice -/
theorem open_sl1 {α : Type} {R : World → Nat → Nat → α → Prop} {Q : α → Prop} {r : Reach} {b0 sz : Nat} {t e : TypeId} {f0 : Field} {v : Value} {d : DataW H} {p : List MemPlace} (hs : P.underlying t = some (.struct #[f0])) (o0 : f0.offset = 0) (t0 : P.underlying f0.type = some (.slice e)) (c0 : P.cellsOf f0.type = 1) (ct : P.cellsOf t = 1) (ce : P.cellsOf e = sz) (hsz : 0 < sz)
    (hel : ∀ (n : Nat) (cs : List Value) (z : DataW H × List MemPlace) (b o : Nat), DataW.trod enc P w base spare held n e cs = some z → cs.length = sz → (∀ i, i < sz → w.cell? ⟨b, o + i, none⟩ = cs[i]?) → ∃ x : α, R w b o x ∧ Q x)
    (hv : Value.okWide P w r b0 t v) (h : DataW.Trod enc P w base spare held t v d p) :
    ∃ A n c xs, v = .agg #[.slice A n c] ∧ RdSl sz R w A n xs ∧ n ≤ maxLen ∧ ∀ x ∈ xs, Q x := by
  obtain ⟨cs, fuel, rfl, hl, hf⟩ := open_struct hs hv h
  obtain ⟨y0, m, _, _, h0⟩ := trod_struct1 hs hf
  rw [o0, c0] at h0
  rw [ct] at hl
  match cs, hl with
  | [v0], _ =>
    simp at h0
    obtain ⟨A, n, c, xs, rfl, hx, hn, hq⟩ := rd_slice (R := R) (Q := Q) t0 ce hsz hel h0
    exact ⟨A, n, c, xs, rfl, hx, hn, hq⟩
/-- a struct of two slices -/
theorem open_sl2 {α β : Type} {R : World → Nat → Nat → α → Prop} {Q : α → Prop} {R' : World → Nat → Nat → β → Prop} {Q' : β → Prop} {r : Reach} {b0 sz sz' : Nat} {t e e' : TypeId} {f0 f1 : Field} {v : Value} {d : DataW H} {p : List MemPlace} (hs : P.underlying t = some (.struct #[f0, f1])) (o0 : f0.offset = 0) (o1 : f1.offset = 1)
    (t0 : P.underlying f0.type = some (.slice e)) (t1 : P.underlying f1.type = some (.slice e')) (c0 : P.cellsOf f0.type = 1) (c1 : P.cellsOf f1.type = 1) (ct : P.cellsOf t = 2) (ce : P.cellsOf e = sz) (ce' : P.cellsOf e' = sz') (hsz : 0 < sz) (hsz' : 0 < sz')
    (hel : ∀ (n : Nat) (cs : List Value) (z : DataW H × List MemPlace) (b o : Nat), DataW.trod enc P w base spare held n e cs = some z → cs.length = sz → (∀ i, i < sz → w.cell? ⟨b, o + i, none⟩ = cs[i]?) → ∃ x : α, R w b o x ∧ Q x)
    (hel' : ∀ (n : Nat) (cs : List Value) (z : DataW H × List MemPlace) (b o : Nat), DataW.trod enc P w base spare held n e' cs = some z → cs.length = sz' → (∀ i, i < sz' → w.cell? ⟨b, o + i, none⟩ = cs[i]?) → ∃ x : β, R' w b o x ∧ Q' x)
    (hv : Value.okWide P w r b0 t v) (h : DataW.Trod enc P w base spare held t v d p) :
    ∃ A n c xs A' n' c' xs', v = .agg #[.slice A n c, .slice A' n' c'] ∧ RdSl sz R w A n xs ∧ n ≤ maxLen ∧ (∀ x ∈ xs, Q x) ∧ RdSl sz' R' w A' n' xs' ∧ n' ≤ maxLen ∧ ∀ x ∈ xs', Q' x := by
  obtain ⟨cs, fuel, rfl, hl, hf⟩ := open_struct hs hv h
  obtain ⟨y0, y1, m, _, _, h0, h1⟩ := trod_struct2 hs hf
  rw [o0, c0] at h0
  rw [o1, c1] at h1
  rw [ct] at hl
  match cs, hl with
  | [v0, v1], _ =>
    simp at h0 h1
    obtain ⟨A, n, c, xs, rfl, hx, hn, hq⟩ := rd_slice (R := R) (Q := Q) t0 ce hsz hel h0
    obtain ⟨A', n', c', xs', rfl, hx', hn', hq'⟩ := rd_slice (R := R') (Q := Q') t1 ce' hsz' hel' h1
    exact ⟨A, n, c, xs, A', n', c', xs', rfl, hx, hn, hq, hx', hn', hq'⟩
/-- a struct of two numbers -/
theorem open_ints2 {r : Reach} {b0 : Nat} {t : TypeId} {f0 f1 : Field} {v : Value} {d : DataW H} {p : List MemPlace} (hs : P.underlying t = some (.struct #[f0, f1])) (o0 : f0.offset = 0) (o1 : f1.offset = 1)
    (t0 : P.underlying f0.type = some (.int .i64)) (t1 : P.underlying f1.type = some (.int .i64)) (c0 : P.cellsOf f0.type = 1) (c1 : P.cellsOf f1.type = 1) (ct : P.cellsOf t = 2)
    (hv : Value.okWide P w r b0 t v) (h : DataW.Trod enc P w base spare held t v d p) :
    ∃ x y : Int, v = .agg #[.int .i64 x, .int .i64 y] ∧ (Lit.int .i64 x).wf = true ∧ (Lit.int .i64 y).wf = true := by
  obtain ⟨cs, fuel, rfl, hl, hf⟩ := open_struct hs hv h
  obtain ⟨y0, y1, m, _, _, h0, h1⟩ := trod_struct2 hs hf
  rw [o0, c0] at h0
  rw [o1, c1] at h1
  rw [ct] at hl
  obtain ⟨x, e0, _, wx⟩ := DataW.trod_int t0 h0
  obtain ⟨y, e1, _, wy⟩ := DataW.trod_int t1 h1
  match cs, hl with
  | [v0, v1], _ =>
    simp at e0 e1
    subst e0 e1
    exact ⟨x, y, rfl, wx, wy⟩
/-- a slice -/
theorem open_sl {α : Type} {R : World → Nat → Nat → α → Prop} {Q : α → Prop} {r : Reach} {b0 sz : Nat} {t e : TypeId} {v : Value} {d : DataW H} {p : List MemPlace} (hs : P.underlying t = some (.slice e)) (ce : P.cellsOf e = sz) (hsz : 0 < sz)
    (hel : ∀ (n : Nat) (cs : List Value) (z : DataW H × List MemPlace) (b o : Nat), DataW.trod enc P w base spare held n e cs = some z → cs.length = sz → (∀ i, i < sz → w.cell? ⟨b, o + i, none⟩ = cs[i]?) → ∃ x : α, R w b o x ∧ Q x)
    (hv : Value.okWide P w r b0 t v) (h : DataW.Trod enc P w base spare held t v d p) :
    ∃ A n c xs, v = .slice A n c ∧ RdSl sz R w A n xs ∧ n ≤ maxLen ∧ ∀ x ∈ xs, Q x := by
  obtain ⟨a0, len, cap, rfl⟩ := okWide_slice hs hv
  obtain ⟨fuel, hf⟩ := h
  obtain ⟨A, n, c, xs, e, hx, hn, hq⟩ := rd_slice (R := R) (Q := Q) hs ce hsz hel (by simpa [Value.cells] using hf)
  exact ⟨A, n, c, xs, e, hx, hn, hq⟩
def typesOk (P : Program) (ts : List TypeId) : Bool := ts.all fun t => P.readableRec t && decide (t < P.types.size)
theorem typesOk_spec {P : Program} {ts : List TypeId} (h : typesOk P ts = true) : ∀ t ∈ ts, P.readableRec t = true ∧ t < P.types.size := fun t ht => by
  have := List.all_eq_true.1 h t ht
  simpa using this
/-- the arguments read behind the call as they did before -/
theorem trodAll_below {W W' : World} (hlo : laidOutB P = true) (hb : Below W.heap.size W W') : ∀ {ts : List TypeId} {vs : List Value} {ds : List (DataW H)} {ps : List MemPlace}, (∀ t ∈ ts, P.readableRec t = true ∧ t < P.types.size) →
    (∀ x ∈ ps, x.block < W.heap.size) → DataW.TrodAll enc P W 0 (fun _ => true) true ts vs ds ps → DataW.TrodAll enc P W' 0 (fun b => decide (b < W.heap.size)) true ts vs ds ps
  | [], vs, ds, ps, _, _, h => by
    obtain ⟨rfl, rfl, rfl⟩ := trodAll_nil h
    exact trodAll_mk0
  | t :: ts, vs, ds, ps, ht, hl, h => by
    obtain ⟨v, vs', d, ds', p, q, rfl, rfl, rfl, h0, h1⟩ := trodAll_cons h
    obtain ⟨r1, r2⟩ := ht t (by simp)
    exact trodAll_cons_mk (Below.trod hlo r1 r2 h0 hb (fun x hx => hl x (by simp [hx]))) (trodAll_below hlo hb (fun t' h' => ht t' (by simp [h'])) (fun x hx => hl x (by simp [hx])) h1)
end
theorem wf_i64 {x : Int} (h : (Lit.int .i64 x).wf = true) : -9223372036854775808 ≤ x ∧ x ≤ 9223372036854775807 := by
  simpa [Lit.wf, IntKind.min, IntKind.max, IntKind.bits, IntKind.signed] using h
end Go.Proofs.Ytkppijcjmhkkkaa
