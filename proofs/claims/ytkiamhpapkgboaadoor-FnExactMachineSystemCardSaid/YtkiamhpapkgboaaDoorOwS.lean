/- Words on rows of tiles and systems of one's own. -/
import Derived.Test.YtkiamhpapkgboaaDoorHSysR
import Derived.Laws.OwnMore
namespace Go.Proofs.YtkiamhpapkgboaaDoor
open Go.RowKit Go.Shelf
set_option linter.unusedSimpArgs false
set_option linter.unusedVariables false
def noSy (c : Int) : Sy × Int := (⟨[], [], [], 0⟩, c)
theorem noSy_small (c : Int) : SmallSy (noSy c).1 := ⟨Nat.zero_le _, Nat.zero_le _, Nat.zero_le _, fun e he => by cases he⟩
def Four (ts : List Ti) : Prop := ∀ e ∈ ts, e.sides.length = 4
theorem opp4 {d : Nat} (h : d < 4) : oppN d < 4 := by unfold oppN; split <;> omega
def slV (b : Nat) : Value := .slice (some ⟨b, 0, none⟩) 4 4
/-- rows of different types lie in different blocks -/
theorem own_ne_own {w : World} {base base' : Nat} {e1 e2 : TypeId} {s1 s2 : Nat} {v1 v2 : Value} {n1 n2 : Nat} {xs1 xs2 : List Value} (h : w.ownsRow base e1 s1 v1 n1 xs1) (k : w.ownsRow base' e2 s2 v2 n2 xs2) (hne : e1 ≠ e2) {g : Nat} (h1 : v1.ownBlock = some g) : v2.ownBlock ≠ some g := by
  rcases h.2 with ⟨hv, _⟩ | ⟨g', cap, cur, hv, _, hh, _⟩
  · subst hv; cases h1
  · subst hv
    have h1 : some g' = some g := h1
    injection h1 with h1
    subst h1
    exact own_ne_row k (N := cur.size) (f := fun i => cur.getD i undef) ⟨cur, hh, rfl, fun i hi => by simp [hi]⟩ (Ne.symm hne)
theorem OwnT.keptG {w w' : World} {base base' : Nat} {T E G : TypeId} {v v1 : Value} {us : List Value} {ts : List Ti} {s n : Nat} {xs : List Value} (h : OwnT w base T E v us ts) (hG : w.ownsRow base' G s v1 n xs) (hT : G ≠ T) (hE : G ≠ E) (hg : w.grownBy w' v1.ownBlock) : OwnT w' base T E v us ts :=
  h.kept hg (fun g e => ⟨own_ne_own hG h.outer hT e, fun k u hu => by
    obtain ⟨t, _, hr⟩ := h.get hu
    exact own_ne_own hG hr hE e⟩)
/-- the cell of a tile's sides -/
theorem OwnT.outAt {w : World} {base : Nat} {T E : TypeId} {v : Value} {us : List Value} {ts : List Ti} {k : Nat} {u : Value} (h : OwnT w base T E v us ts) (hu : us[k]? = some u) : ∃ g c, v = .slice (some ⟨g, 0, none⟩) us.length c ∧ base ≤ g ∧ g < w.heap.size ∧ w.cell? ⟨g, k * 2 + 1, none⟩ = some u := by
  have hku := (List.getElem?_eq_some_iff.1 hu).1
  rcases h.outer.2 with ⟨_, h0⟩ | ⟨g, cap, cur, hv, hb, hh, hnc, hm, hs, ht⟩
  · omega
  · refine ⟨g, cap, hv, hb, (Array.getElem?_eq_some_iff.1 hh).1, ?_⟩
    obtain ⟨t, ht', _⟩ := h.get hu
    have hz : ((ts.map Ti.name).zip us)[k]? = some (t.name, u) := by
      rw [List.getElem?_zip_eq_some]
      exact ⟨by rw [List.getElem?_map, ht']; rfl, hu⟩
    have hg := flatC_get encNU_len _ k _ hz 1 (by omega)
    rw [← ht, List.getElem?_take] at hg
    split at hg
    · simp only [World.cell?, hh]
      have : cur[k * 2 + 1]? = some u := by rw [← Array.getElem?_toList, hg]; rfl
      simpa using this
    · cases hg
theorem bl_sys {w w1 : World} (h : Below w.heap.size w w1) (a b c d : Value) : Below w.heap.size w ((((w1.setCell ⟨w.heap.size, 0, none⟩ a).setCell ⟨w.heap.size, 1, none⟩ b).setCell ⟨w.heap.size, 2, none⟩ c).setCell ⟨w.heap.size, 3, none⟩ d) :=
  (((h.setCell (p := ⟨w.heap.size, 0, none⟩) (Nat.le_refl _) a).setCell (p := ⟨w.heap.size, 1, none⟩) (Nat.le_refl _) b).setCell (p := ⟨w.heap.size, 2, none⟩) (Nat.le_refl _) c).setCell (p := ⟨w.heap.size, 3, none⟩) (Nat.le_refl _) d
theorem OwnSy.of {W : World} {lo base : Nat} {A B C : Option Addr} {ca cb cc : Nat} {us : List Value} {gs : List Gl} {ts : List Ti} {xs : List Pl} {t : Int} (hlo : lo ≤ base) (hl : lo ≤ W.heap.size) (hg : W.ownsRow base 87 2 (.slice A gs.length ca) gs.length (flatC encGl gs)) (ht : OwnT W base 91 2 (.slice B ts.length cb) us ts) (hp : W.ownsRow base 95 3 (.slice C xs.length cc) xs.length (plCells xs)) (h4 : Four ts) :
    OwnSy W lo W.heap.size A B C ca cb cc us ⟨gs, ts, xs, t⟩ :=
  ⟨ownsRow_lo hg hlo, ht.rebase hlo, ownsRow_lo hp hlo, h4, fun g e => (hg.lt g e).2, fun g e => (ht.lt g e).2, fun k u g hu e => (ht.ltIn hu g e).2, fun g e => (hp.lt g e).2, Nat.le_refl _⟩
/-- four cells of one block below the base are set -/
theorem row_set4 {W : World} {base b : Nat} {e : TypeId} {size n : Nat} {v : Value} {xs : List Value} (h : W.ownsRow base e size v n xs) (hb : b < base) (x0 x1 x2 x3 : Value) : ((((W.setCell ⟨b, 0, none⟩ x0).setCell ⟨b, 1, none⟩ x1).setCell ⟨b, 2, none⟩ x2).setCell ⟨b, 3, none⟩ x3).ownsRow base e size v n xs :=
  ownsRow_setB (ownsRow_setB (ownsRow_setB (ownsRow_setB h (p := ⟨b, 0, none⟩) hb x0) (p := ⟨b, 1, none⟩) hb x1) (p := ⟨b, 2, none⟩) hb x2) (p := ⟨b, 3, none⟩) hb x3
theorem OwnT.set4 {W : World} {base b : Nat} {T E : TypeId} {v : Value} {us : List Value} {ts : List Ti} (h : OwnT W base T E v us ts) (hb : b < base) (x0 x1 x2 x3 : Value) : OwnT ((((W.setCell ⟨b, 0, none⟩ x0).setCell ⟨b, 1, none⟩ x1).setCell ⟨b, 2, none⟩ x2).setCell ⟨b, 3, none⟩ x3) base T E v us ts :=
  (((h.setBelow (p := ⟨b, 0, none⟩) hb x0).setBelow (p := ⟨b, 1, none⟩) hb x1).setBelow (p := ⟨b, 2, none⟩) hb x2).setBelow (p := ⟨b, 3, none⟩) hb x3
theorem SyRes.none_ {w w' : World} {r : Sy × Int} {c : Int} (h : noSy c = r) (hb : Below w.heap.size w w') : SyRes w r (.returned (.tuple #[.agg #[.slice none 0 0, .slice none 0 0, .slice none 0 0, .int .i64 0], .int .i64 c])) w' := by
  subst h
  exact ⟨Option.none, Option.none, Option.none, 0, 0, 0, [], rfl, OwnSy.empty w' hb.size, hb⟩
theorem SyRes.boxed {w w2 : World} {lo : Nat} {r : Sy × Int} {A B C : Option Addr} {ca cb cc : Nat} {us : List Value} (h1 : OwnSy w2 lo w2.heap.size A B C ca cb cc us r.1) (hl : w.heap.size < lo) (hb : Below w.heap.size w w2) :
    SyRes w r (.returned (.tuple #[.agg #[.slice A r.1.gs.length ca, .slice B r.1.ts.length cb, .slice C r.1.xs.length cc, .int .i64 r.1.t], .int .i64 r.2]))
      ((((w2.setCell ⟨w.heap.size, 0, none⟩ (.slice A r.1.gs.length ca)).setCell ⟨w.heap.size, 1, none⟩ (.slice B r.1.ts.length cb)).setCell ⟨w.heap.size, 2, none⟩ (.slice C r.1.xs.length cc)).setCell ⟨w.heap.size, 3, none⟩ (.int .i64 r.1.t)) := by
  refine ⟨A, B, C, ca, cb, cc, us, rfl, ?_, bl_sys hb _ _ _ _⟩
  have hz := hb.size
  exact OwnSy.of (base := lo) (by omega) (by simpa using hz) (row_set4 h1.g hl _ _ _ _) (h1.t.set4 hl _ _ _ _) (row_set4 h1.p hl _ _ _ _) h1.four
theorem SyRes.boxedA {w w2 : World} {lo : Nat} {r : Sy × Int} {A B C : Option Addr} {ca cb cc : Nat} {us : List Value} (h1 : OwnSy w2 lo w2.heap.size A B C ca cb cc us r.1) (hl : w.heap.size < lo) (hb : Below w.heap.size w w2) (o : Obj) :
    SyRes w r (.returned (.tuple #[.agg #[.slice A r.1.gs.length ca, .slice B r.1.ts.length cb, .slice C r.1.xs.length cc, .int .i64 r.1.t], .int .i64 r.2]))
      (((((w2.setCell ⟨w.heap.size, 0, none⟩ (.slice A r.1.gs.length ca)).setCell ⟨w.heap.size, 1, none⟩ (.slice B r.1.ts.length cb)).setCell ⟨w.heap.size, 2, none⟩ (.slice C r.1.xs.length cc)).setCell ⟨w.heap.size, 3, none⟩ (.int .i64 r.1.t)).alloc o) := by
  refine ⟨A, B, C, ca, cb, cc, us, rfl, ?_, bl_al (bl_sys hb _ _ _ _) o⟩
  have hz := hb.size
  exact OwnSy.of (base := lo) (by omega) (by simp; omega) ((row_set4 h1.g hl _ _ _ _).alloc o) ((h1.t.set4 hl _ _ _ _).below (bl_al (bl_refl _) _)) ((row_set4 h1.p hl _ _ _ _).alloc o) h1.four
end Go.Proofs.YtkiamhpapkgboaaDoor
