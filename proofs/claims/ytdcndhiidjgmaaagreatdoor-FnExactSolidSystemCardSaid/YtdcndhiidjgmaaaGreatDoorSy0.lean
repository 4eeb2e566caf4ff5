/- Plain: the system of a shape: a tile for each point, a glue for each tie. Words on a side that is set. -/
import Derived.Test.YtdcndhiidjgmaaaGreatDoorHSysR
import Derived.Test.YtdcndhiidjgmaaaGreatDoorDnp
import Derived.Test.YtdcndhiidjgmaaaGreatDoorKF
import Derived.Laws.OwnMore
namespace Go.Proofs.YtdcndhiidjgmaaaGreatDoor
open Go.RowKit Go.Shelf
set_option linter.unusedSimpArgs false
set_option linter.unusedVariables false
abbrev GT := List Gl × List Ti
/-- side d of tile i -/
def setSide (ts : List Ti) (i d : Nat) (v : Int) : List Ti := match ts[i]? with
  | none => ts
  | some t => ts.set i ⟨t.name, t.sides.set d v⟩
theorem setSide_some {ts : List Ti} {i d : Nat} {v : Int} {t : Ti} (h : ts[i]? = some t) : setSide ts i d v = ts.set i ⟨t.name, t.sides.set d v⟩ := by unfold setSide; rw [h]
theorem setSide_len (ts : List Ti) (i d : Nat) (v : Int) : (setSide ts i d v).length = ts.length := by
  unfold setSide; split
  · rfl
  · rw [List.length_set]
theorem setSide_name (ts : List Ti) (i d : Nat) (v : Int) : (setSide ts i d v).map Ti.name = ts.map Ti.name := by
  cases h : ts[i]? with
  | none => unfold setSide; rw [h]
  | some t =>
    rw [setSide_some h, List.map_set]
    apply List.ext_getElem?
    intro j
    rw [List.getElem?_set]
    split
    · rename_i e
      subst e
      split
      · rw [List.getElem?_map, h]; rfl
      · rename_i hl
        rw [List.getElem?_eq_none (by omega)]
    · rfl
def Four (ts : List Ti) : Prop := ∀ e ∈ ts, e.sides.length = 4
theorem Four.set {ts : List Ti} (h : Four ts) (i d : Nat) (v : Int) : Four (setSide ts i d v) := by
  cases hi : ts[i]? with
  | none => unfold setSide; rw [hi]; exact h
  | some t =>
    rw [setSide_some hi]
    intro e he
    rcases List.mem_or_eq_of_mem_set he with he | rfl
    · exact h e he
    · show (t.sides.set d v).length = 4
      rw [List.length_set]; exact h t (List.mem_of_getElem? hi)
/-- the strength of the tie of i with its neighbor k in direction d -/
def strS (par : List Int) (solid : Bool) (i d k : Nat) : Int := if par[i]? = some (d : Int) ∨ par[k]? = some (oppN d : Int) then 2 else if solid then 1 else 0
def glue1 (ps : List Pt) (par : List Int) (solid : Bool) (i d : Nat) (st : GT) : GT := match nbP ps i d with
  | none => st
  | some k => if strS par solid i d k = 0 then st else (st.1 ++ [⟨pairN ⟨#[103]⟩ i k, strS par solid i d k⟩], setSide (setSide st.2 i d (st.1.length + 1 : Nat)) k (oppN d) (st.1.length + 1 : Nat))
/-- east, then north -/
def glueJ (ps : List Pt) (par : List Int) (solid : Bool) (i : Nat) (st : GT) : Nat → GT
  | 0 => st
  | j + 1 => glue1 ps par solid i (1 - j) (glueJ ps par solid i st j)
def glueI (ps : List Pt) (par : List Int) (solid : Bool) (st : GT) : Nat → GT
  | 0 => st
  | i + 1 => glueJ ps par solid i (glueI ps par solid st i) 2
def tileP (i : Nat) : Ti := ⟨⟨#[112]⟩ ++ decN i, [0, 0, 0, 0]⟩
def tiles0 : Nat → List Ti
  | 0 => []
  | n + 1 => tiles0 n ++ [tileP n]
theorem tiles0_len : ∀ n, (tiles0 n).length = n
  | 0 => rfl
  | n + 1 => by rw [tiles0, List.length_append, tiles0_len n]; rfl
theorem tiles0_four : ∀ n, Four (tiles0 n)
  | 0 => fun e he => by cases he
  | n + 1 => fun e he => by
    rw [tiles0, List.mem_append] at he
    rcases he with he | he
    · exact tiles0_four n e he
    · simp at he; subst he; rfl
/-- what the two loops keep -/
structure GInvS (n b : Nat) (st : GT) : Prop where
  len : st.2.length = n
  four : Four st.2
  gl : st.1.length ≤ b
theorem glue1_none {ps : List Pt} {par : List Int} {solid : Bool} {i d : Nat} {st : GT} (h : nbP ps i d = none) : glue1 ps par solid i d st = st := by unfold glue1; rw [h]
theorem glue1_zero {ps : List Pt} {par : List Int} {solid : Bool} {i d k : Nat} {st : GT} (h : nbP ps i d = some k) (hs : strS par solid i d k = 0) : glue1 ps par solid i d st = st := by unfold glue1; rw [h]; simp only [hs, if_true]
theorem glue1_some {ps : List Pt} {par : List Int} {solid : Bool} {i d k : Nat} {s : Int} {st : GT} (h : nbP ps i d = some k) (hs : strS par solid i d k = s) (h0 : s ≠ 0) :
    glue1 ps par solid i d st = (st.1 ++ [⟨pairN ⟨#[103]⟩ i k, s⟩], setSide (setSide st.2 i d (st.1.length + 1 : Nat)) k (oppN d) (st.1.length + 1 : Nat)) := by unfold glue1; rw [h]; simp only [hs, if_neg h0]
theorem GInvS.one {n b : Nat} {st : GT} (h : GInvS n b st) (ps : List Pt) (par : List Int) (solid : Bool) (i d : Nat) : GInvS n (b + 1) (glue1 ps par solid i d st) := by
  cases hn : nbP ps i d with
  | none => rw [glue1_none hn]; exact ⟨h.len, h.four, Nat.le_succ_of_le h.gl⟩
  | some k =>
    by_cases hs : strS par solid i d k = 0
    · rw [glue1_zero hn hs]; exact ⟨h.len, h.four, Nat.le_succ_of_le h.gl⟩
    · rw [glue1_some hn rfl hs]
      exact ⟨by rw [setSide_len, setSide_len]; exact h.len, (h.four.set _ _ _).set _ _ _, by rw [List.length_append]; have := h.gl; simp; omega⟩
theorem GInvS.J {n b : Nat} {st : GT} (h : GInvS n b st) (ps : List Pt) (par : List Int) (solid : Bool) (i : Nat) : ∀ j, GInvS n (b + j) (glueJ ps par solid i st j)
  | 0 => h
  | j + 1 => (GInvS.J h ps par solid i j).one ps par solid i (1 - j)
theorem GInvS.I {n b : Nat} {st : GT} (h : GInvS n b st) (ps : List Pt) (par : List Int) (solid : Bool) : ∀ i, GInvS n (b + 2 * i) (glueI ps par solid st i)
  | 0 => h
  | i + 1 => by
    have := (GInvS.I h ps par solid i).J ps par solid i 2
    rw [show b + 2 * (i + 1) = b + 2 * i + 2 by omega]; exact this
theorem GInvS.start (n : Nat) : GInvS n 0 ([], tiles0 n) := ⟨tiles0_len n, tiles0_four n, Nat.le_refl _⟩
/-- the system of a shape and a code -/
def shapeG (ps : List Pt) (r : Nat) (solid : Bool) : GT := glueI ps (ways (nbP ps) ps.length r).1 solid ([], tiles0 ps.length) ps.length
def shapeL (ps : List Pt) (r : Nat) (solid : Bool) : List Pl := match ps[r]? with
  | none => []
  | some e => [⟨e.x, e.y, r⟩]
def noSy (c : Int) : Sy × Int := (⟨[], [], [], 0⟩, c)
def shapeS (ps : List Pt) (r : Int) (solid : Bool) : Sy × Int :=
  if treeC ps r ≠ 0 then noSy (treeC ps r) else if 160 < ps.length then noSy 4 else if 200 < (shapeG ps r.toNat solid).1.length then noSy 4 else (⟨(shapeG ps r.toNat solid).1, (shapeG ps r.toNat solid).2, shapeL ps r.toNat solid, 2⟩, 0)
theorem shapeS_bad {ps : List Pt} {r : Int} {solid : Bool} (h : treeC ps r ≠ 0) : shapeS ps r solid = noSy (treeC ps r) := by unfold shapeS; rw [if_pos h]
theorem shapeS_full {ps : List Pt} {r : Int} {solid : Bool} (h : treeC ps r = 0) (h1 : 160 < ps.length) : shapeS ps r solid = noSy 4 := by unfold shapeS; rw [if_neg (by simp [h]), if_pos h1]
theorem shapeS_many {ps : List Pt} {r : Nat} {solid : Bool} (h : treeC ps (r : Int) = 0) (h1 : ¬ 160 < ps.length) (h2 : 200 < (shapeG ps r solid).1.length) : shapeS ps (r : Int) solid = noSy 4 := by
  unfold shapeS; rw [if_neg (by simp [h]), if_neg h1]; simp only [Int.toNat_natCast]; rw [if_pos h2]
theorem shapeS_ok {ps : List Pt} {r : Nat} {solid : Bool} (h : treeC ps (r : Int) = 0) (h1 : ¬ 160 < ps.length) (h2 : ¬ 200 < (shapeG ps r solid).1.length) : shapeS ps (r : Int) solid = (⟨(shapeG ps r solid).1, (shapeG ps r solid).2, shapeL ps r solid, 2⟩, 0) := by
  unfold shapeS; rw [if_neg (by simp [h]), if_neg h1]; simp only [Int.toNat_natCast]; rw [if_neg h2]
theorem shapeG_inv (ps : List Pt) (r : Nat) (solid : Bool) : GInvS ps.length (2 * ps.length) (shapeG ps r solid) := by
  have := (GInvS.start ps.length).I ps (ways (nbP ps) ps.length r).1 solid ps.length
  rw [Nat.zero_add] at this
  exact this
theorem noSy_small (c : Int) : SmallSy (noSy c).1 := ⟨Nat.zero_le _, Nat.zero_le _, Nat.zero_le _, fun e he => by cases he⟩
theorem shapeS_small (ps : List Pt) (r : Int) (solid : Bool) : SmallSy (shapeS ps r solid).1 := by
  unfold shapeS
  split
  · exact noSy_small _
  · split
    · exact noSy_small _
    · split
      · exact noSy_small _
      · rename_i h1 h2
        have h := shapeG_inv ps r.toNat solid
        refine ⟨by show (shapeG ps r.toNat solid).1.length ≤ 1000; omega, by show (shapeG ps r.toNat solid).2.length ≤ 1000; rw [h.len]; omega, ?_, h.four⟩
        show (shapeL ps r.toNat solid).length ≤ 1000
        unfold shapeL; split <;> simp
/-- neighbors in different directions differ -/
theorem nbP_inj {ps : List Pt} {i d e k : Nat} (hd : d < 4) (he : e < 4) (h1 : nbP ps i d = some k) (h2 : nbP ps i e = some k) : d = e := by
  unfold nbP at h1 h2
  cases hp : ps[i]? with
  | none => rw [hp] at h1; cases h1
  | some p =>
    rw [hp] at h1 h2
    simp only at h1 h2
    have e1 := idxP_some h1
    rw [idxP_some h2] at e1
    injection e1 with e1
    injection e1 with ex ey
    have hd' : d = 0 ∨ d = 1 ∨ d = 2 ∨ d = 3 := by omega
    have he' : e = 0 ∨ e = 1 ∨ e = 2 ∨ e = 3 := by omega
    rcases hd' with rfl | rfl | rfl | rfl <;> rcases he' with rfl | rfl | rfl | rfl <;> simp [stepX, stepY] at ex ey ⊢ <;> omega
/-- a trip came from the neighbor in its parent's direction -/
theorem trip_from {w : World} {B : Nat} {ps : List Pt} {st : WaySt} {T : Nat → Option Nat} (h : Trips w B ps st T) {v u d gu : Nat} {f : Option Nat} {dv : Int} (hd : d < 4) (hn : nbP ps v d = some u) (hu : T u = some gu)
    (hdv : st.2.1[v]? = some dv) (hf : (dv = -1 ∧ f = none) ∨ ∃ dn u : Nat, dv = (dn : Int) ∧ dn < 4 ∧ nbP ps v dn = some u ∧ u ∈ st.1 ∧ f = T u) : f = some gu ↔ st.2.1[v]? = some (d : Int) := by
  rw [hdv]
  rcases hf with ⟨rfl, rfl⟩ | ⟨dn, u', rfl, h4, hn', hm, rfl⟩
  · constructor
    · intro e; cases e
    · intro e; injection e with e; omega
  · constructor
    · intro e
      have := h.inj u' u gu e hu
      subst this
      rw [nbP_inj hd h4 hn hn']
    · intro e
      injection e with e
      have : dn = d := by omega
      subst this
      rw [hn] at hn'
      injection hn' with hn'
      rw [← hn']; exact hu
/-- a side of a tile of one's own is set -/
theorem OwnT.setSide {w : World} {base : Nat} {T E : TypeId} {v : Value} {us : List Value} {ts : List Ti} {i d b n c : Nat} {t : Ti} (x : Int) (h : OwnT w base T E v us ts) (hu : us[i]? = some (.slice (some ⟨b, 0, none⟩) n c)) (ht : ts[i]? = some t) : OwnT (w.setCell ⟨b, d, none⟩ (.int .i64 x)) base T E v us (setSide ts i d x) := by
  have hin := h.inner i _ t hu ht
  have hg : w.grownBy (w.setCell ⟨b, d, none⟩ (.int .i64 x)) (some b) := ⟨rfl, rfl, rfl, by simp, fun k hk hne => Below.heap_setCell _ _ _ _ (fun e => hne (by rw [e]))⟩
  have hn : n = t.sides.length := by
    rcases hin.2 with ⟨h0, _⟩ | ⟨g, cap, cur, hv, _⟩
    · cases h0
    · injection hv
  subst hn
  have hvo : v.ownBlock ≠ some b := h.off i _ b hu rfl
  refine ⟨by rw [setSide_len]; exact h.len, ?_, fun k u r hu' hr => ?_, h.apart, h.off⟩
  · rw [setSide_name]; exact h.outer.kept hg (.inr hvo)
  · rw [setSide_some ht] at hr
    by_cases e : k = i
    · subst e
      rw [hu] at hu'
      obtain rfl := Option.some.inj hu'
      rw [List.getElem?_set_self (List.getElem?_eq_some_iff.1 ht).1] at hr
      obtain rfl := Option.some.inj hr
      have h1 := (hin.stored d (.int .i64 x)).1
      rw [show flatC encI (t.sides.set d x) = (flatC encI t.sides).set d (.int .i64 x) from ?_, List.length_set]
      · exact h1
      · have hf : ∀ l : List Int, flatC encI l = l.map (Value.int .i64) := by
          intro l
          induction l with
          | nil => rfl
          | cons a l ih => simp only [List.map_cons, ← ih]; rfl
        rw [hf, hf, List.map_set]
    · rw [List.getElem?_set_ne (Ne.symm e)] at hr
      have hne : u.ownBlock ≠ some b := fun e' => e (h.apart k i _ _ b hu' hu e' rfl)
      exact (h.inner k u r hu' hr).kept hg (.inr hne)
theorem opp4 {d : Nat} (h : d < 4) : oppN d < 4 := by unfold oppN; split <;> omega
def slV (b : Nat) : Value := .slice (some ⟨b, 0, none⟩) 4 4
/-- each tile's sides lie in a block -/
theorem OwnT.sideAt {w : World} {base : Nat} {T E : TypeId} {v : Value} {us : List Value} {ts : List Ti} {i : Nat} {t : Ti} (h : OwnT w base T E v us ts) (h4 : Four ts) (ht : ts[i]? = some t) : ∃ (b c : Nat), us[i]? = some (.slice (some ⟨b, 0, none⟩) 4 c) ∧ base ≤ b ∧ b < w.heap.size ∧ (∀ o, w.frozen? ⟨b, o, none⟩ = false) ∧ ∀ d, d < 4 → ∃ x, w.cell? ⟨b, d, none⟩ = some x := by
  have hi : i < us.length := by rw [h.len]; exact (List.getElem?_eq_some_iff.1 ht).1
  have hu := List.getElem?_eq_getElem hi
  have hin := h.inner i _ t hu ht
  have ht4 := h4 t (List.mem_of_getElem? ht)
  rw [ht4] at hin
  rcases hin.2 with ⟨_, h0⟩ | ⟨g, cap, cur, hv, hb, hh, hnc, hm, hs, htk⟩
  · omega
  · refine ⟨g, cap, by rw [hu, hv], hb, (Array.getElem?_eq_some_iff.1 hh).1, fun o => ?_, fun d hd => ?_⟩
    · rw [hv] at hin; exact hin.frozenAt o
    · rw [hv] at hin
      have := hin.cellAt d (by omega)
      rw [this]
      have hl : (flatC encI t.sides).length = 4 := by rw [flatC_len encI_len, ht4]
      exact ⟨_, List.getElem?_eq_getElem (by omega)⟩
/-- rows of different types lie in different blocks -/
theorem own_ne_own {w : World} {base base' : Nat} {e1 e2 : TypeId} {s1 s2 : Nat} {v1 v2 : Value} {n1 n2 : Nat} {xs1 xs2 : List Value} (h : w.ownsRow base e1 s1 v1 n1 xs1) (k : w.ownsRow base' e2 s2 v2 n2 xs2) (hne : e1 ≠ e2) {g : Nat} (h1 : v1.ownBlock = some g) : v2.ownBlock ≠ some g := by
  rcases h.2 with ⟨hv, _⟩ | ⟨g', cap, cur, hv, _, hh, _⟩
  · subst hv; cases h1
  · subst hv
    have h1 : some g' = some g := h1
    injection h1 with h1
    subst h1
    exact own_ne_row k (N := cur.size) (f := fun i => cur.getD i undef) ⟨cur, hh, rfl, fun i hi => by simp [hi]⟩ (Ne.symm hne)
theorem OwnT.keptG {w w' : World} {base base' : Nat} {T E G : TypeId} {v v1 : Value} {us : List Value} {ts : List Ti} {s n : Nat} {xs : List Value} (h : OwnT w base T E v us ts) (hG : w.ownsRow base' G s v1 n xs) (hT : G ≠ T) (hE : G ≠ E) (hg : w.grownBy w' v1.ownBlock) : OwnT w' base T E v us ts :=
  h.kept hg (fun g e => ⟨own_ne_own hG h.outer hT e, fun k u hu => by
    obtain ⟨t, _, hr⟩ := h.get hu
    exact own_ne_own hG hr hE e⟩)
/-- the cell of a tile's sides -/
theorem OwnT.outAt {w : World} {base : Nat} {T E : TypeId} {v : Value} {us : List Value} {ts : List Ti} {k : Nat} {u : Value} (h : OwnT w base T E v us ts) (hu : us[k]? = some u) : ∃ g c, v = .slice (some ⟨g, 0, none⟩) us.length c ∧ base ≤ g ∧ g < w.heap.size ∧ w.cell? ⟨g, k * 2 + 1, none⟩ = some u := by
  have hku := (List.getElem?_eq_some_iff.1 hu).1
  rcases h.outer.2 with ⟨_, h0⟩ | ⟨g, cap, cur, hv, hb, hh, hnc, hm, hs, ht⟩
  · omega
  · refine ⟨g, cap, hv, hb, (Array.getElem?_eq_some_iff.1 hh).1, ?_⟩
    obtain ⟨t, ht', _⟩ := h.get hu
    have hz : ((ts.map Ti.name).zip us)[k]? = some (t.name, u) := by
      rw [List.getElem?_zip_eq_some]
      exact ⟨by rw [List.getElem?_map, ht']; rfl, hu⟩
    have hg := flatC_get encNU_len _ k _ hz 1 (by omega)
    rw [← ht, List.getElem?_take] at hg
    split at hg
    · simp only [World.cell?, hh]
      have : cur[k * 2 + 1]? = some u := by rw [← Array.getElem?_toList, hg]; rfl
      simpa using this
    · cases hg
theorem bl_sys {w w1 : World} (h : Below w.heap.size w w1) (a b c d : Value) : Below w.heap.size w ((((w1.setCell ⟨w.heap.size, 0, none⟩ a).setCell ⟨w.heap.size, 1, none⟩ b).setCell ⟨w.heap.size, 2, none⟩ c).setCell ⟨w.heap.size, 3, none⟩ d) :=
  (((h.setCell (p := ⟨w.heap.size, 0, none⟩) (Nat.le_refl _) a).setCell (p := ⟨w.heap.size, 1, none⟩) (Nat.le_refl _) b).setCell (p := ⟨w.heap.size, 2, none⟩) (Nat.le_refl _) c).setCell (p := ⟨w.heap.size, 3, none⟩) (Nat.le_refl _) d
theorem OwnSy.of {W : World} {lo base : Nat} {A B C : Option Addr} {ca cb cc : Nat} {us : List Value} {gs : List Gl} {ts : List Ti} {xs : List Pl} {t : Int} (hlo : lo ≤ base) (hl : lo ≤ W.heap.size) (hg : W.ownsRow base 69 2 (.slice A gs.length ca) gs.length (flatC encGl gs)) (ht : OwnT W base 59 2 (.slice B ts.length cb) us ts) (hp : W.ownsRow base 72 3 (.slice C xs.length cc) xs.length (plCells xs)) (h4 : Four ts) :
    OwnSy W lo W.heap.size A B C ca cb cc us ⟨gs, ts, xs, t⟩ :=
  ⟨ownsRow_lo hg hlo, ht.rebase hlo, ownsRow_lo hp hlo, h4, fun g e => (hg.lt g e).2, fun g e => (ht.lt g e).2, fun k u g hu e => (ht.ltIn hu g e).2, fun g e => (hp.lt g e).2, Nat.le_refl _⟩
/-- four cells of one block below the base are set -/
theorem row_set4 {W : World} {base b : Nat} {e : TypeId} {size n : Nat} {v : Value} {xs : List Value} (h : W.ownsRow base e size v n xs) (hb : b < base) (x0 x1 x2 x3 : Value) : ((((W.setCell ⟨b, 0, none⟩ x0).setCell ⟨b, 1, none⟩ x1).setCell ⟨b, 2, none⟩ x2).setCell ⟨b, 3, none⟩ x3).ownsRow base e size v n xs :=
  ownsRow_setB (ownsRow_setB (ownsRow_setB (ownsRow_setB h (p := ⟨b, 0, none⟩) hb x0) (p := ⟨b, 1, none⟩) hb x1) (p := ⟨b, 2, none⟩) hb x2) (p := ⟨b, 3, none⟩) hb x3
theorem OwnT.set4 {W : World} {base b : Nat} {T E : TypeId} {v : Value} {us : List Value} {ts : List Ti} (h : OwnT W base T E v us ts) (hb : b < base) (x0 x1 x2 x3 : Value) : OwnT ((((W.setCell ⟨b, 0, none⟩ x0).setCell ⟨b, 1, none⟩ x1).setCell ⟨b, 2, none⟩ x2).setCell ⟨b, 3, none⟩ x3) base T E v us ts :=
  (((h.setBelow (p := ⟨b, 0, none⟩) hb x0).setBelow (p := ⟨b, 1, none⟩) hb x1).setBelow (p := ⟨b, 2, none⟩) hb x2).setBelow (p := ⟨b, 3, none⟩) hb x3
end Go.Proofs.YtdcndhiidjgmaaaGreatDoor
