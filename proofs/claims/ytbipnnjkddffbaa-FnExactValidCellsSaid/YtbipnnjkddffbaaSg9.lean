/- Plain facts on signal cells: form, places, meetings, states. -/
import Derived.Test.YtbipnnjkddffbaaSg8
import Derived.Test.YtbipnnjkddffbaaW12
namespace Go.Proofs.Ytbipnnjkddffbaa
open Go.RowKit
set_option linter.unusedSimpArgs false
set_option linter.unusedVariables false
theorem BelowBy.cell_drewS2 {W : World} (p : BelowBy W.drew.drew) (b o : Nat) (h : b < W.heap.size) : p.world.cell? ⟨b, o, none⟩ = W.cell? ⟨b, o, none⟩ := p.h.cell h
theorem BelowBy.cell_drewS3 {W : World} (p : BelowBy W.drew.drew.drew) (b o : Nat) (h : b < W.heap.size) : p.world.cell? ⟨b, o, none⟩ = W.cell? ⟨b, o, none⟩ := p.h.cell h
def scPl (c : Sc) : Pl := ⟨c.x, c.y, c.t⟩
def plsOf (cs : List Sc) : List Pl := cs.map scPl
theorem plsOf_len (cs : List Sc) : (plsOf cs).length = cs.length := by simp [plsOf]
theorem plsOf_get {cs : List Sc} {k : Nat} {c : Sc} (h : cs[k]? = some c) : (plsOf cs)[k]? = some (scPl c) := by simp [plsOf, h]
theorem plsOf_inv {cs : List Sc} {k : Nat} {e : Pl} (h : (plsOf cs)[k]? = some e) : ∃ c, cs[k]? = some c ∧ e = scPl c := by
  simp only [plsOf, List.getElem?_map, Option.map_eq_some_iff] at h
  obtain ⟨t, h1, h2⟩ := h
  exact ⟨t, h1, h2.symm⟩
def firesN (ts : List Sti) (t : Int) : Nat := match ts[t.toNat]? with
  | some e => e.fires.length
  | none => 0
/-- the lists of a cell have the right lengths -/
def formB (ts : List Sti) (c : Sc) : Bool := validPt c.x c.y && (inB c.t 0 ((ts.length : Int) - 1) && (decide (c.on.length = 4) && (decide (c.bound.length = 4) && decide (c.fired.length = firesN ts c.t))))
def okForm (ts : List Sti) (cs : List Sc) (j : Nat) : Bool := match cs[j]? with
  | none => true
  | some c => formB ts c && (match j with
    | 0 => true
    | i + 1 => match cs[i]? with
      | none => true
      | some d => lessPt d.x d.y c.x c.y)
theorem okForm_0 {ts : List Sti} {cs : List Sc} {c : Sc} (h : cs[0]? = some c) : okForm ts cs 0 = formB ts c := by unfold okForm; rw [h]; simp
theorem okForm_S {ts : List Sti} {cs : List Sc} {k : Nat} {c d : Sc} (h : cs[k + 1]? = some c) (hd : cs[k]? = some d) : okForm ts cs (k + 1) = (formB ts c && lessPt d.x d.y c.x c.y) := by unfold okForm; rw [h]; simp only [hd]
theorem okForm_bad {ts : List Sti} {cs : List Sc} {k : Nat} {c : Sc} (h : cs[k]? = some c) (hf : formB ts c = false) : okForm ts cs k = false := by unfold okForm; rw [h]; simp [hf]
/-- a valid set and cells of the right form -/
structure CellsV (gs : List Gl) (ts : List Sti) (cs : List Sc) : Prop where
  V : Valid gs (tisOf ts) (plsOf cs)
  cell : ∀ (k : Nat) (c : Sc), cs[k]? = some c → c.on.length = 4 ∧ c.bound.length = 4 ∧ ∃ (t : Nat) (e : Sti), c.t = t ∧ ts[t]? = some e ∧ c.fired.length = e.fires.length
  tile : ∀ (t : Nat) (e : Sti), ts[t]? = some e → e.sides.length = 4 ∧ e.on.length = 4 ∧ e.fires.length ≤ 6 ∧ ∀ (j : Nat) (f : Fi), e.fires[j]? = some f → ∃ a b : Nat, f.f = a ∧ f.t = b ∧ a < 4 ∧ b < 4
  len : cs.length ≤ 80
  glue : ∀ (t : Nat) (e : Sti) (d : Nat) (v : Int), ts[t]? = some e → e.sides[d]? = some v → 0 ≤ v
theorem sgSet_set {gs : List Gl} {ts : List Sti} (h : sgSetB gs ts = true) : validSetB gs (tisOf ts) = true ∧ ∀ (k : Nat) (e : Sti), ts[k]? = some e → okSt e = true := by
  unfold sgSetB at h
  simp only [Bool.and_eq_true] at h
  exact ⟨h.1, fun k e he => by have := allB_at h.2 (lt_of_get he); rwa [okStJ_eq he] at this⟩
theorem tile_facts {gs : List Gl} {ts : List Sti} (h : sgSetB gs ts = true) (t : Nat) (e : Sti) (he : ts[t]? = some e) : e.sides.length = 4 ∧ e.on.length = 4 ∧ e.fires.length ≤ 6 ∧ ∀ (j : Nat) (f : Fi), e.fires[j]? = some f → ∃ a b : Nat, f.f = a ∧ f.t = b ∧ a < 4 ∧ b < 4 := by
  obtain ⟨h1, h2⟩ := sgSet_set h
  have hs := h2 t e he
  unfold okSt at hs
  simp only [Bool.and_eq_true, decide_eq_true_eq] at hs
  refine ⟨valid_four h1 (tisOf_get he), hs.1, hs.2.1, fun j f hf => ?_⟩
  have := allB_at hs.2.2.2 (lt_of_get hf)
  unfold okFi at this
  rw [hf] at this
  simp only [fireOk, Bool.and_eq_true, inB_true] at this
  obtain ⟨h3, h4, _⟩ := this
  exact ⟨f.f.toNat, f.t.toNat, by omega, by omega, by omega, by omega⟩
theorem cellsV_of {gs : List Gl} {ts : List Sti} {cs : List Sc} (h : sgSetB gs ts = true) (hl : cs.length ≤ 80) (hf : ∀ j, j < cs.length → okForm ts cs j = true) : CellsV gs ts cs := by
  have hform : ∀ (k : Nat) (c : Sc), cs[k]? = some c → formB ts c = true := fun k c hc => by
    have := hf k (lt_of_get hc)
    cases hh : formB ts c with
    | true => rfl
    | false => rw [okForm_bad hc hh] at this; cases this
  obtain ⟨h1, h2⟩ := sgSet_set h
  have htl : ts.length ≤ 160 := by
    have h3 := h1
    unfold validSetB at h3
    simp only [Bool.and_eq_true, decide_eq_true_eq, tisOf_len] at h3
    exact h3.1.2.2
  have hV : Valid gs (tisOf ts) (plsOf cs) := by
    refine valid_of ?_
    unfold validAsmB
    rw [h1]
    have hq : hasFormB (plsOf cs) = true := by
      refine hasFormB_ok (by rw [plsOf_len]; omega) fun j hj => ?_
      rw [plsOf_len] at hj
      obtain ⟨c, hc⟩ : ∃ c, cs[j]? = some c := ⟨_, List.getElem?_eq_getElem hj⟩
      have h5 := hform j c hc
      unfold formB at h5
      simp only [Bool.and_eq_true] at h5
      have h6 : inB c.t 0 159 = true := inB_true.2 (by have := inB_true.1 h5.2.1; omega)
      cases j with
      | zero => rw [okPl_eq0 (plsOf_get hc)]; show (validPt c.x c.y && inB c.t 0 159) = true; rw [h5.1, h6]; rfl
      | succ i =>
        obtain ⟨d, hd⟩ : ∃ d, cs[i]? = some d := ⟨_, List.getElem?_eq_getElem (by omega)⟩
        have h7 := hf (i + 1) hj
        rw [okForm_S hc hd, Bool.and_eq_true] at h7
        rw [okPl_eqS (plsOf_get hc) (plsOf_get hd)]
        show (validPt c.x c.y && inB c.t 0 159 && lessPt d.x d.y c.x c.y) = true
        rw [h5.1, h6, h7.2]; rfl
    have ht : allB (plsOf cs).length (okTile (tisOf ts).length (plsOf cs)) = true := allB_true fun j hj => by
      rw [plsOf_len] at hj
      obtain ⟨c, hc⟩ : ∃ c, cs[j]? = some c := ⟨_, List.getElem?_eq_getElem hj⟩
      have h5 := hform j c hc
      unfold formB at h5
      simp only [Bool.and_eq_true] at h5
      unfold okTile
      rw [plsOf_get hc, tisOf_len]
      exact h5.2.1
    rw [hq, ht]; rfl
  refine ⟨hV, fun k c hc => ?_, tile_facts h, hl, fun t e d v he hv => ?_⟩
  · have h5 := hform k c hc
    unfold formB at h5
    simp only [Bool.and_eq_true, decide_eq_true_eq] at h5
    obtain ⟨_, h6, h7, h8, h9⟩ := h5
    have h6 := inB_true.1 h6
    obtain ⟨e, he⟩ : ∃ e, ts[c.t.toNat]? = some e := ⟨_, List.getElem?_eq_getElem (by omega)⟩
    refine ⟨h7, h8, c.t.toNat, e, by omega, he, ?_⟩
    unfold firesN at h9
    rw [he] at h9
    exact h9
  · obtain ⟨g, hg, _⟩ := hV.side t (tiOf e) d v (tisOf_get he) hv
    omega
/-- the glue on a side of tile t -/
def glueC (ts : List Sti) (t : Int) (d : Nat) : Int := match ts[t.toNat]? with
  | some e => sideAt e.sides d
  | none => 0
theorem glueC_eq {ts : List Sti} {t : Nat} {e : Sti} {d : Nat} {v : Int} (h : ts[t]? = some e) (hv : e.sides[d]? = some v) : glueC ts t d = v := by unfold glueC; rw [Int.toNat_natCast, h]; exact sideAt_eq hv
/-- the cell at a point -/
noncomputable def cellAt (cs : List Sc) (x y : Int) : Option Sc := if 0 ≤ placeI (plsOf cs) x y then cs[(placeI (plsOf cs) x y).toNat]? else none
/-- the cell in a direction -/
noncomputable def nextC (cs : List Sc) (c : Sc) (d : Nat) : Option Sc := cellAt cs (stepX c.x d) (stepY c.y d)
noncomputable def meetB (ts : List Sti) (cs : List Sc) (c : Sc) (d : Nat) : Bool := match nextC cs c d with
  | none => false
  | some n => onAt c.on d && (decide (glueC ts c.t d ≠ 0) && (onAt n.on (oppN d) && decide (glueC ts n.t (oppN d) = glueC ts c.t d)))
/-- what lies at a place -/
theorem place_cases {gs : List Gl} {ts : List Sti} {cs : List Sc} (h : CellsV gs ts cs) (x y : Int) : (placeI (plsOf cs) x y = -1 ∧ cellAt cs x y = none) ∨ ∃ (k : Nat) (n : Sc), placeI (plsOf cs) x y = k ∧ cs[k]? = some n ∧ cellAt cs x y = some n := by
  have hp : IsPlace (plsOf cs) x y (placeI (plsOf cs) x y) := by
    refine Classical.epsilon_spec (p := IsPlace (plsOf cs) x y) ?_
    by_cases hx : ∃ (k : Nat) (e : Pl), (plsOf cs)[k]? = some e ∧ e.x = x ∧ e.y = y
    · obtain ⟨k, e, h1, h2, h3⟩ := hx
      exact ⟨_, .inr ⟨k, e, rfl, h1, h2, h3⟩⟩
    · exact ⟨-1, .inl ⟨rfl, fun k e h1 h2 => hx ⟨k, e, h1, h2⟩⟩⟩
  rcases hp with ⟨h1, _⟩ | ⟨k, e, h1, h2, _, _⟩
  · exact .inl ⟨h1, by unfold cellAt; rw [h1, if_neg (by decide)]⟩
  · obtain ⟨n, hn, _⟩ := plsOf_inv h2
    exact .inr ⟨k, n, h1, hn, by unfold cellAt; rw [h1, if_pos (by omega), Int.toNat_natCast]; exact hn⟩
theorem meet_none {ts : List Sti} {cs : List Sc} {c : Sc} {d : Nat} (h : nextC cs c d = none) : meetB ts cs c d = false := by unfold meetB; rw [h]
theorem meet_some {ts : List Sti} {cs : List Sc} {c n : Sc} {d : Nat} (h : nextC cs c d = some n) : meetB ts cs c d = (onAt c.on d && (decide (glueC ts c.t d ≠ 0) && (onAt n.on (oppN d) && decide (glueC ts n.t (oppN d) = glueC ts c.t d)))) := by unfold meetB; rw [h]
/-- a bond of the cell in a direction is one of its neighbor too -/
noncomputable def bothB (cs : List Sc) (c : Sc) (d : Nat) : Bool := match nextC cs c d with
  | none => false
  | some n => onAt n.bound (oppN d)
theorem both_some {cs : List Sc} {c n : Sc} {d : Nat} (h : nextC cs c d = some n) : bothB cs c d = onAt n.bound (oppN d) := by unfold bothB; rw [h]
/-- fire i has been performed though its side is not bound -/
def fireC (e : Sti) (c : Sc) (i : Nat) : Bool := match e.fires[i]? with
  | some f => !(onAt c.fired i && !onAt c.bound f.f)
  | none => true
theorem fireC_eq {e : Sti} {c : Sc} {i : Nat} {f : Fi} (h : e.fires[i]? = some f) : fireC e c i = !(onAt c.fired i && !onAt c.bound f.f) := by unfold fireC; rw [h]
/-- fire i did not turn side d on -/
def quietC (e : Sti) (c : Sc) (d i : Nat) : Bool := match e.fires[i]? with
  | some f => !(decide (f.t = d) && onAt c.fired i)
  | none => true
theorem quietC_eq {e : Sti} {c : Sc} {d i : Nat} {f : Fi} (h : e.fires[i]? = some f) : quietC e c d i = !(decide (f.t = d) && onAt c.fired i) := by unfold quietC; rw [h]
/-- one of the first k fires turned side d on -/
def firedTo (e : Sti) (c : Sc) (d k : Nat) : Bool := !allB k (quietC e c d)
theorem firedTo_0 (e : Sti) (c : Sc) (d : Nat) : firedTo e c d 0 = false := rfl
theorem firedTo_S {e : Sti} {c : Sc} {d k : Nat} {f : Fi} (h : e.fires[k]? = some f) : firedTo e c d (k + 1) = (firedTo e c d k || (decide (f.t = d) && onAt c.fired k)) := by
  unfold firedTo; rw [allB_succ, quietC_eq h]; simp
noncomputable def dirC (ts : List Sti) (cs : List Sc) (e : Sti) (c : Sc) (d : Nat) : Bool :=
  (onAt c.on d == (onAt e.on d || firedTo e c d e.fires.length)) && (!onAt c.bound d || (meetB ts cs c d && bothB cs c d))
def tileC (ts : List Sti) (c : Sc) : Sti := (ts[c.t.toNat]?).getD ⟨ByteArray.empty, [], [], []⟩
theorem tileC_eq {ts : List Sti} {c : Sc} {t : Nat} {e : Sti} (h : c.t = t) (he : ts[t]? = some e) : tileC ts c = e := by unfold tileC; rw [h, Int.toNat_natCast, he]; rfl
/-- the state of a cell is possible -/
noncomputable def cellB (ts : List Sti) (cs : List Sc) (c : Sc) : Bool := allB (tileC ts c).fires.length (fireC (tileC ts c) c) && allB 4 (dirC ts cs (tileC ts c) c)
noncomputable def cellJ (ts : List Sti) (cs : List Sc) (j : Nat) : Bool := match cs[j]? with
  | some c => cellB ts cs c
  | none => true
theorem cellJ_eq {ts : List Sti} {cs : List Sc} {j : Nat} {c : Sc} (h : cs[j]? = some c) : cellJ ts cs j = cellB ts cs c := by unfold cellJ; rw [h]
/-- both answers -/
noncomputable def validCellsB (gs : List Gl) (ts : List Sti) (cs : List Sc) : Bool := sgSetB gs ts && (decide (cs.length ≤ 80) && (allB cs.length (okForm ts cs) && allB cs.length (cellJ ts cs)))
end Go.Proofs.Ytbipnnjkddffbaa
