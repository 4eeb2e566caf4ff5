import Derived.Test.YtmhgjgclclnmaaaGreatW15
import Derived.Test.YtmhgjgclclnmaaaGreatHTo
import Derived.Test.YtmhgjgclclnmaaaGreatOrdApp
import Derived.Maps.AppendAt
import Derived.Test.YtmhgjgclclnmaaaGreatKP
set_option linter.unusedSimpArgs false
set_option linter.unusedVariables false
/- Rows of rows that a call has made: no two of them lie in one block. -/

namespace Go.Proofs.YtmhgjgclclnmaaaGreat
open Go.RowKit
/-- v owns a row of the slices us; each of these owns a row of cells; no two lie in one block -/
structure Own2 (w : World) (base : Nat) (T E : TypeId) (size : Nat) (v : Value) (us : List Value) (rows : List (List Value)) : Prop where
  outer : w.ownsRow base T 1 v us.length us
  len : us.length = rows.length
  inner : ∀ (k : Nat) (u : Value) (r : List Value), us[k]? = some u → rows[k]? = some r → ∃ n, w.ownsRow base E size u n r
  apart : ∀ (j k : Nat) (u u' : Value) (g : Nat), us[j]? = some u → us[k]? = some u' → u.ownBlock = some g → u'.ownBlock = some g → j = k
  off : ∀ (k : Nat) (u : Value) (g : Nat), us[k]? = some u → u.ownBlock = some g → v.ownBlock ≠ some g
section
variable {w w' : World} {base : Nat} {T E : TypeId} {size : Nat} {v : Value} {us : List Value} {rows : List (List Value)}
theorem Own2.nil (w : World) (base : Nat) (T E : TypeId) (size : Nat) : Own2 w base T E size (.slice none 0 0) [] [] :=
  ⟨World.ownsRow_nil _ _ _ _, rfl, fun k u r h => by simp at h, fun j k u u' g h => by simp at h, fun k u g h => by simp at h⟩
/-- an empty row that was made -/
theorem Own2.made {n : Nat} {cs : Array Value} (hb : base ≤ w.heap.size) (hs : cs.size = 0) (h : (w.alloc (.cells cs T)).ownsRow base T 1 v 0 []) : Own2 (w.alloc (.cells cs T)) base T E size v [] [] :=
  ⟨h, rfl, fun k u r h => by simp at h, fun j k u u' g h => by simp at h, fun k u g h => by simp at h⟩
theorem Own2.of_empty (h : w.ownsRow base T 1 v 0 []) : Own2 w base T E size v [] [] :=
  ⟨h, rfl, fun k u r h => by simp at h, fun j k u u' g h => by simp at h, fun k u g h => by simp at h⟩
theorem Own2.get (h : Own2 w base T E size v us rows) {k : Nat} {u : Value} (hu : us[k]? = some u) : ∃ n r, rows[k]? = some r ∧ w.ownsRow base E size u n r := by
  have hk := (List.getElem?_eq_some_iff.1 hu).1
  have hr := List.getElem?_eq_getElem (l := rows) (i := k) (by rw [← h.len]; exact hk)
  obtain ⟨n, hn⟩ := h.inner k u _ hu hr
  exact ⟨n, _, hr, hn⟩
theorem Own2.outerN {N : Nat} (h : Own2 w base T E size v us rows) (hN : us.length = N) : w.ownsRow base T 1 v N us := hN ▸ h.outer
theorem Own2.lt (h : Own2 w base T E size v us rows) : ∀ g, v.ownBlock = some g → base ≤ g ∧ g < w.heap.size := h.outer.lt
theorem Own2.ltIn (h : Own2 w base T E size v us rows) {k : Nat} {u : Value} (hu : us[k]? = some u) : ∀ g, u.ownBlock = some g → base ≤ g ∧ g < w.heap.size := by
  obtain ⟨n, r, _, hr⟩ := h.get hu
  exact hr.lt
/-- whatever turns another block -/
theorem Own2.kept {row : Option Nat} (h : Own2 w base T E size v us rows) (hg : w.grownBy w' row) (h1 : ∀ g, row = some g → v.ownBlock ≠ some g ∧ ∀ (k : Nat) (u : Value), us[k]? = some u → u.ownBlock ≠ some g) : Own2 w' base T E size v us rows := by
  have ho : ∀ x : Value, (∀ g, row = some g → x.ownBlock ≠ some g) → x.ownBlock = none ∨ x.ownBlock ≠ row := fun x hx => by
    cases hb : x.ownBlock with
    | none => exact .inl rfl
    | some g => exact .inr fun e => hx g e.symm hb
  refine ⟨h.outer.kept hg (ho v fun g e => (h1 g e).1), h.len, fun k u r hu hr => ?_, h.apart, h.off⟩
  obtain ⟨n, hn⟩ := h.inner k u r hu hr
  exact ⟨n, hn.kept hg (ho u fun g e => (h1 g e).2 k u hu)⟩
theorem Own2.below (h : Own2 w base T E size v us rows) (hb : Below w.heap.size w w') : Own2 w' base T E size v us rows :=
  h.kept (grown_below hb none) (fun g e => by cases e)
theorem Own2.alloc (h : Own2 w base T E size v us rows) (o : Obj) : Own2 (w.alloc o) base T E size v us rows :=
  h.kept (World.grownBy_alloc w o none) (fun g e => by cases e)
theorem Own2.rebase (h : Own2 w base T E size v us rows) {base' : Nat} (hb : base' ≤ base) : Own2 w base' T E size v us rows := by
  have hd : ∀ {e s x n xs}, w.ownsRow base e s x n xs → w.ownsRow base' e s x n xs := fun h => ⟨h.1, h.2.imp id (fun ⟨g, cap, cur, h1, h2, h3⟩ => ⟨g, cap, cur, h1, Nat.le_trans hb h2, h3⟩)⟩
  exact ⟨hd h.outer, h.len, fun k u r hu hr => (h.inner k u r hu hr).imp fun n hn => hd hn, h.apart, h.off⟩
/-- a store below its base -/
theorem Own2.setBelow (h : Own2 w base T E size v us rows) {p : Addr} (hp : p.block < base) (x : Value) : Own2 (w.setCell p x) base T E size v us rows := by
  refine h.kept (row := some p.block) ⟨rfl, rfl, rfl, by simp, fun k hk hne => Below.heap_setCell _ _ _ _ (fun e => hne (by rw [e]))⟩ (fun g e => ?_)
  injection e with e
  subst e
  refine ⟨fun e => ?_, fun k u hu e => ?_⟩
  · have := (h.lt _ e).1; omega
  · have := (h.ltIn hu _ e).1; omega
/-- one more row: the slice x, which owns the row r -/
theorem Own2.push {w1 : World} {v' x : Value} {N n : Nat} {r : List Value} (h : Own2 w1 base T E size v us rows) (hN : us.length = N) (hx : w1.ownsRow base E size x n r)
    (hd : ∀ g, x.ownBlock = some g → v.ownBlock ≠ some g ∧ ∀ (k : Nat) (u : Value), us[k]? = some u → u.ownBlock ≠ some g)
    (hown : w'.ownsRow base T 1 v' (N + 1) (us ++ [x])) (hg : w1.grownBy w' v.ownBlock) (hat : v'.ownBlock = v.ownBlock ∨ v'.ownBlock = some w1.heap.size) : Own2 w' base T E size v' (us ++ [x]) (rows ++ [r]) := by
  subst hN
  have hk : ∀ {u : Value} {n : Nat} {r : List Value}, w1.ownsRow base E size u n r → (∀ g, u.ownBlock = some g → v.ownBlock ≠ some g) → w'.ownsRow base E size u n r := fun {u n r} hu hne => by
    refine hu.kept hg ?_
    cases hb : u.ownBlock with
    | none => exact .inl rfl
    | some g => exact .inr fun e => hne g hb e.symm
  have hcase : ∀ {k : Nat} {u : Value}, (us ++ [x])[k]? = some u → (k < us.length ∧ us[k]? = some u) ∨ (k = us.length ∧ u = x) := fun {k u} hu => by
    rcases Nat.lt_or_ge k us.length with hlt | hge
    · rw [List.getElem?_append_left hlt] at hu
      exact .inl ⟨hlt, hu⟩
    · have hlt := (List.getElem?_eq_some_iff.1 hu).1
      simp at hlt
      obtain rfl : k = us.length := by omega
      simp at hu
      exact .inr ⟨rfl, hu.symm⟩
  refine ⟨by simpa using hown, by simp [h.len], fun k u q hu hq => ?_, fun j k u u' g hu0 hu' hb hb' => ?_, fun k u g hu hb e => ?_⟩
  · rcases hcase hu with ⟨hlt, hu⟩ | ⟨rfl, rfl⟩
    · rw [List.getElem?_append_left (by rw [← h.len]; exact hlt)] at hq
      obtain ⟨m, hm⟩ := h.inner k u q hu hq
      exact ⟨m, hk hm fun g hg => h.off k u g hu hg⟩
    · rw [h.len] at hq
      simp at hq
      subst hq
      exact ⟨n, hk hx fun g hg => (hd g hg).1⟩
  · rcases hcase hu0 with ⟨hlt, hu⟩ | ⟨rfl, rfl⟩
    · clear hu0
      rcases hcase hu' with ⟨hlt', hu'⟩ | ⟨rfl, rfl⟩
      · exact h.apart j k u u' g hu hu' hb hb'
      · exact ((hd g hb').2 j u hu hb).elim
    · rcases hcase hu' with ⟨hlt', hu'⟩ | ⟨rfl, rfl⟩
      · exact ((hd g hb).2 k u' hu' hb').elim
      · rfl
  · rcases hcase hu with ⟨hlt, hu⟩ | ⟨rfl, rfl⟩
    · rcases hat with hat | hat
      · exact h.off k u g hu hb (hat ▸ e)
      · have := (h.ltIn hu g hb).2
        rw [hat] at e
        injection e with e
        omega
    · rcases hat with hat | hat
      · exact (hd g hb).1 (hat ▸ e)
      · have := (hx.lt g hb).2
        rw [hat] at e
        injection e with e
        omega
/-- row k grows: the slice u was appended to (in w1) and is stored back (into block g) -/
theorem Own2.grow {w1 : World} {N k g cap n' : Nat} {u u' : Value} {r' : List Value} (h : Own2 w1 base T E size (.slice (some ⟨g, 0, none⟩) N cap) us rows) (hN : us.length = N) (hu : us[k]? = some u)
    (hown : w'.ownsRow base E size u' n' r') (hg : w1.grownBy w' u.ownBlock) (hat : u'.ownBlock = u.ownBlock ∨ u'.ownBlock = some w1.heap.size) :
    Own2 (w'.setCell ⟨g, k, none⟩ u') base T E size (.slice (some ⟨g, 0, none⟩) N cap) (us.set k u') (rows.set k r') := by
  subst hN
  have hgl := (h.lt g rfl)
  have hug : u.ownBlock ≠ some g := fun e => h.off k u g hu e rfl
  have hu'g : u'.ownBlock ≠ some g := fun e => by
    rcases hat with hat | hat
    · exact hug (hat ▸ e)
    · rw [hat] at e
      injection e with e
      omega
  have hgn : (w').grownBy (w'.setCell ⟨g, k, none⟩ u') (some g) := ⟨rfl, rfl, rfl, by simp, fun i hi hne => Below.heap_setCell _ _ _ _ (fun e => hne (by rw [e]))⟩
  have ho1 : w'.ownsRow base T 1 (.slice (some ⟨g, 0, none⟩) us.length cap) us.length us := h.outer.kept hg (.inr fun e => hug e.symm)
  have ho2 := (ho1.stored k u').1
  have hne2 : ∀ {x : Value}, x.ownBlock ≠ some g → x.ownBlock = none ∨ x.ownBlock ≠ some g := fun h => .inr h
  have hcase : ∀ {j : Nat} {x : Value}, (us.set k u')[j]? = some x → (j ≠ k ∧ us[j]? = some x) ∨ (j = k ∧ x = u') := fun {j x} hx => by
    by_cases e : j = k
    · subst e
      rw [List.getElem?_set_self (List.getElem?_eq_some_iff.1 hu).1] at hx
      exact .inr ⟨rfl, (Option.some.inj hx).symm⟩
    · rw [List.getElem?_set_ne (fun e' => e e'.symm)] at hx
      exact .inl ⟨e, hx⟩
  have hnb : ∀ {j : Nat} {x : Value} {b : Nat}, us[j]? = some x → j ≠ k → x.ownBlock = some b → u'.ownBlock ≠ some b := fun {j x b} hx hj hb e => by
    rcases hat with hat | hat
    · exact hj (h.apart j k x u b hx hu hb (hat ▸ e))
    · have := (h.ltIn hx b hb).2
      rw [hat] at e
      injection e with e
      omega
  refine ⟨by simpa using ho2, by simp [h.len], fun j x q hx hq => ?_, fun i j x y b hx0 hy0 hb hb' => ?_, fun j x b hx hb e => ?_⟩
  · rcases hcase hx with ⟨hj, hx⟩ | ⟨rfl, rfl⟩
    · rw [List.getElem?_set_ne (fun e' => hj e'.symm)] at hq
      obtain ⟨p, hp⟩ := h.inner j x q hx hq
      refine ⟨p, (hp.kept hg ?_).kept hgn (hne2 fun e => h.off j x g hx e rfl)⟩
      cases hb : x.ownBlock with
      | none => exact .inl rfl
      | some b => exact .inr fun e => hj (h.apart j k x u b hx hu hb e.symm)
    · rw [List.getElem?_set_self (by rw [← h.len]; exact (List.getElem?_eq_some_iff.1 hu).1)] at hq
      obtain rfl := Option.some.inj hq
      exact ⟨n', hown.kept hgn (hne2 hu'g)⟩
  · rcases hcase hx0 with ⟨hi, hx⟩ | ⟨rfl, rfl⟩
    · clear hx0
      rcases hcase hy0 with ⟨hj, hy⟩ | ⟨rfl, rfl⟩
      · exact h.apart i j x y b hx hy hb hb'
      · exact (hnb hx hi hb hb').elim
    · clear hx0
      rcases hcase hy0 with ⟨hj, hy⟩ | ⟨rfl, rfl⟩
      · exact (hnb hy hj hb' hb).elim
      · rfl
  · rcases hcase hx with ⟨hj, hx⟩ | ⟨rfl, rfl⟩
    · exact h.off j x b hx hb e
    · injection e with e
      subst e
      exact hu'g hb
theorem Own2.form {N : Nat} (h : Own2 w base T E size v us rows) (hN : us.length = N) : ∃ A cap, v = .slice A N cap := by
  subst hN
  rcases h.outer.2 with ⟨rfl, h0⟩ | ⟨g, cap, cur, rfl, _⟩
  · exact ⟨none, 0, by rw [h0]⟩
  · exact ⟨_, cap, rfl⟩
theorem Own2.formPos {N : Nat} (h : Own2 w base T E size v us rows) (hN : us.length = N) (hp : 0 < N) : ∃ g cap, v = .slice (some ⟨g, 0, none⟩) N cap := by
  subst hN
  rcases h.outer.2 with ⟨rfl, h0⟩ | ⟨g, cap, cur, rfl, _⟩
  · omega
  · exact ⟨_, cap, rfl⟩
theorem Own2.keptBelow {row : Option Nat} (h : Own2 w base T E size v us rows) (hg : w.grownBy w' row) (hr : ∀ g, row = some g → g < base) : Own2 w' base T E size v us rows :=
  h.kept hg fun g e => ⟨fun e' => by have := (h.lt g e').1; have := hr g e; omega, fun k u hu e' => by have := (h.ltIn hu g e').1; have := hr g e; omega⟩
/-- the outer row behind an append to row k -/
theorem Own2.after {N g cap k : Nat} {u : Value} (h : Own2 w base T E size (.slice (some ⟨g, 0, none⟩) N cap) us rows) (hN : us.length = N) (hu : us[k]? = some u) (hg : w.grownBy w' u.ownBlock) : w'.cell? ⟨g, k, none⟩ = some u ∧ w'.frozen? ⟨g, k, none⟩ = false ∧ g < w'.heap.size ∧ base ≤ g := by
  subst hN
  have hne : u.ownBlock ≠ some g := fun e => h.off k u g hu e rfl
  have ho : w'.ownsRow base T 1 (.slice (some ⟨g, 0, none⟩) us.length cap) us.length us := h.outer.kept hg (.inr fun e => hne e.symm)
  have hl := ho.lt g rfl
  exact ⟨(ho.cellAt k (by have := (List.getElem?_eq_some_iff.1 hu).1; omega)).trans hu, ho.frozenAt k, hl.2, hl.1⟩
theorem Own2.cellAt {N g cap k : Nat} {u : Value} (h : Own2 w base T E size (.slice (some ⟨g, 0, none⟩) N cap) us rows) (hN : us.length = N) (hu : us[k]? = some u) : w.cell? ⟨g, k, none⟩ = some u ∧ w.frozen? ⟨g, k, none⟩ = false ∧ g < w.heap.size := by
  subst hN
  exact ⟨(h.outer.cellAt k (by have := (List.getElem?_eq_some_iff.1 hu).1; omega)).trans hu, h.outer.frozenAt k, (h.outer.lt g rfl).2⟩
theorem ownsRow_form {w : World} {base : Nat} {e : TypeId} {size : Nat} {v : Value} {n : Nat} {xs : List Value} (h : w.ownsRow base e size v n xs) : ∃ A cap, v = .slice A n cap := by
  rcases h.2 with ⟨rfl, rfl⟩ | ⟨g, cap, cur, rfl, _⟩
  · exact ⟨none, 0, rfl⟩
  · exact ⟨_, cap, rfl⟩
theorem below_app {B0 : Nat} {W w2 : World} {o : Obj} {row : Option Nat} (hB : B0 ≤ W.heap.size) (hu : ∀ g, row = some g → B0 ≤ g) (hg : (W.alloc o).grownBy w2 row) : Below B0 W w2 :=
  ((Below.refl B0 W).alloc hB o).grown hg (by simp; omega) hu
end
end Go.Proofs.YtmhgjgclclnmaaaGreat
/- Rows of tiles that a call made: each tile's sides in a row of its own, no two in one block; rows of cells said by a code of their elements. -/




namespace Go.Proofs.YtmhgjgclclnmaaaGreat
open Go.RowKit Go.Shelf
/-- the cells of a row whose elements are coded by enc -/
def flatC {α : Type} (enc : α → List Value) : List α → List Value
  | [] => []
  | a :: l => enc a ++ flatC enc l
section
variable {α : Type} {enc : α → List Value} {size : Nat}
theorem flatC_len (h : ∀ a, (enc a).length = size) (l : List α) : (flatC enc l).length = l.length * size := by
  induction l with
  | nil => simp [flatC]
  | cons a l ih => rw [flatC, List.length_append, h, ih, List.length_cons, Nat.succ_mul]; omega
theorem flatC_snoc (l : List α) (a : α) : flatC enc (l ++ [a]) = flatC enc l ++ enc a := by
  induction l with
  | nil => simp [flatC]
  | cons b l ih => simp [flatC, ih]
theorem flatC_one (h : ∀ a, ∀ u ∈ enc a, u.oneCell' = true) (l : List α) : ∀ u ∈ flatC enc l, u.oneCell' = true := by
  induction l with
  | nil => simp [flatC]
  | cons a l ih =>
    intro u hu
    rw [flatC, List.mem_append] at hu
    rcases hu with hu | hu
    · exact h a u hu
    · exact ih u hu
theorem flatC_get (h : ∀ a, (enc a).length = size) : ∀ (l : List α) (k : Nat) (e : α), l[k]? = some e → ∀ j, j < size → (flatC enc l)[k * size + j]? = (enc e)[j]?
  | [], k, e, he => by simp at he
  | a :: l, 0, e, he => fun j hj => by
    simp at he
    subst he
    rw [flatC, Nat.zero_mul, Nat.zero_add, List.getElem?_append_left (by rw [h]; exact hj)]
  | a :: l, k + 1, e, he => fun j hj => by
    have := flatC_get h l k e (by simpa using he) j hj
    rw [flatC, List.getElem?_append_right (by rw [h, Nat.succ_mul]; omega), h, ← this]
    congr 1
    rw [Nat.succ_mul]; omega
theorem flatC_of_rd (hs : 0 < size) (h : ∀ a, (enc a).length = size) {w : World} {b o : Nat} {xs : List α} (hr : ∀ k e, xs[k]? = some e → ∀ j u, (enc e)[j]? = some u → w.cell? ⟨b, o + k * size + j, none⟩ = some u) :
    ∀ j u, (flatC enc xs)[j]? = some u → w.cell? ((⟨b, o, none⟩ : Addr).add j) = some u := by
  intro j u hj
  have hlt := (List.getElem?_eq_some_iff.1 hj).1
  rw [flatC_len h] at hlt
  have hk : j / size < xs.length := Nat.div_lt_of_lt_mul (by rw [Nat.mul_comm]; exact hlt)
  have hd : j / size * size + j % size = j := by rw [Nat.mul_comm]; exact Nat.div_add_mod j size
  have hm : j % size < size := Nat.mod_lt _ hs
  have hg := flatC_get h xs (j / size) _ (List.getElem?_eq_getElem hk) (j % size) hm
  rw [hd, hj] at hg
  have := hr (j / size) _ (List.getElem?_eq_getElem hk) (j % size) u hg.symm
  rw [Nat.add_assoc, hd] at this
  rw [Addr.add_lit]; exact this
theorem rd_of_flat (h : ∀ a, (enc a).length = size) {W : World} {base : Nat} {T : TypeId} {v : Value} {xs : List α} (hr : W.ownsRow base T size v xs.length (flatC enc xs)) :
    ∃ A cap, v = .slice A xs.length cap ∧ (0 < xs.length → ∃ g, A = some ⟨g, 0, none⟩ ∧ base ≤ g ∧ g < W.heap.size ∧ ∀ k e, xs[k]? = some e → ∀ j u, (enc e)[j]? = some u → W.cell? ⟨g, k * size + j, none⟩ = some u) := by
  rcases hr.2 with ⟨rfl, h0⟩ | ⟨g, cap, cur, rfl, hb, hh, hn, hm, hs, ht⟩
  · exact ⟨none, 0, by rw [h0], fun hp => by omega⟩
  · refine ⟨_, cap, rfl, fun hp => ⟨g, rfl, hb, (Array.getElem?_eq_some_iff.1 hh).1, fun k e he j u hu => ?_⟩⟩
    have hj : j < size := by have := (List.getElem?_eq_some_iff.1 hu).1; rw [h] at this; exact this
    have hg := flatC_get h xs k e he j hj
    rw [← ht, hu, List.getElem?_take] at hg
    split at hg
    · simp only [World.cell?, hh]
      simpa using hg
    · cases hg
end
theorem ownsRow_lo {w : World} {base base' : Nat} {e : TypeId} {size : Nat} {v : Value} {n : Nat} {xs : List Value} (h : w.ownsRow base e size v n xs) (hb : base' ≤ base) : w.ownsRow base' e size v n xs :=
  ⟨h.1, h.2.imp id (fun ⟨g, cap, cur, h1, h2, h3⟩ => ⟨g, cap, cur, h1, Nat.le_trans hb h2, h3⟩)⟩
theorem ownsRow_setB {w : World} {base : Nat} {e : TypeId} {size : Nat} {v : Value} {n : Nat} {xs : List Value} (h : w.ownsRow base e size v n xs) {p : Addr} (hp : p.block < base) (x : Value) : (w.setCell p x).ownsRow base e size v n xs := by
  refine h.kept (row := some p.block) ⟨rfl, rfl, rfl, by simp, fun k hk hne => Below.heap_setCell _ _ _ _ (fun e => hne (by rw [e]))⟩ ?_
  cases hb : v.ownBlock with
  | none => exact .inl rfl
  | some g => exact .inr fun e' => by have := (h.lt g hb).1; injection e'; omega
def encGl (e : Gl) : List Value := [.string e.name, .int .i64 e.s]
def encI (e : Int) : List Value := [.int .i64 e]
def encNU (e : ByteArray × Value) : List Value := [.string e.1, e.2]
theorem encGl_len (e : Gl) : (encGl e).length = 2 := rfl
theorem encI_len (e : Int) : (encI e).length = 1 := rfl
theorem encNU_len (e : ByteArray × Value) : (encNU e).length = 2 := rfl
theorem encGl_one (e : Gl) : ∀ u ∈ encGl e, u.oneCell' = true := fun u hu => by simp [encGl] at hu; rcases hu with rfl | rfl <;> rfl
theorem encI_one (e : Int) : ∀ u ∈ encI e, u.oneCell' = true := fun u hu => by simp [encI] at hu; subst hu; rfl
theorem rdGl_of_flat {W : World} {base : Nat} {T : TypeId} {v : Value} {xs : List Gl} (hr : W.ownsRow base T 2 v xs.length (flatC encGl xs)) : ∃ A cap, v = .slice A xs.length cap ∧ RdSl 2 RGl W A xs.length xs := by
  obtain ⟨A, cap, hv, h⟩ := rd_of_flat encGl_len hr
  refine ⟨A, cap, hv, rfl, fun hp => ?_⟩
  obtain ⟨g, hA, _, hg, hc⟩ := h hp
  exact ⟨g, 0, hA, hg, fun k hk => by
    have h0 := hc k _ (List.getElem?_eq_getElem hk) 0 _ rfl
    have h1 := hc k _ (List.getElem?_eq_getElem hk) 1 _ rfl
    rw [Nat.zero_add]; exact ⟨h0, h1⟩⟩
theorem rdI_of_flat {W : World} {base : Nat} {T : TypeId} {v : Value} {xs : List Int} (hr : W.ownsRow base T 1 v xs.length (flatC encI xs)) : ∃ A cap, v = .slice A xs.length cap ∧ RdSl 1 RInt W A xs.length xs := by
  obtain ⟨A, cap, hv, h⟩ := rd_of_flat encI_len hr
  refine ⟨A, cap, hv, rfl, fun hp => ?_⟩
  obtain ⟨g, hA, _, hg, hc⟩ := h hp
  exact ⟨g, 0, hA, hg, fun k hk => by
    have h0 := hc k _ (List.getElem?_eq_getElem hk) 0 _ rfl
    rw [Nat.zero_add]; exact h0⟩
/-- v owns a row of tiles: names and slices us; each slice owns its sides; no two lie in one block -/
structure OwnT (w : World) (base : Nat) (T E : TypeId) (v : Value) (us : List Value) (ts : List Ti) : Prop where
  len : us.length = ts.length
  outer : w.ownsRow base T 2 v us.length (flatC encNU ((ts.map Ti.name).zip us))
  inner : ∀ (k : Nat) (u : Value) (t : Ti), us[k]? = some u → ts[k]? = some t → w.ownsRow base E 1 u t.sides.length (flatC encI t.sides)
  apart : ∀ (j k : Nat) (u u' : Value) (g : Nat), us[j]? = some u → us[k]? = some u' → u.ownBlock = some g → u'.ownBlock = some g → j = k
  off : ∀ (k : Nat) (u : Value) (g : Nat), us[k]? = some u → u.ownBlock = some g → v.ownBlock ≠ some g
section
variable {w w' : World} {base : Nat} {T E : TypeId} {v : Value} {us : List Value} {ts : List Ti}
theorem OwnT.of_empty (h : w.ownsRow base T 2 v 0 []) : OwnT w base T E v [] [] :=
  ⟨rfl, h, fun k u r h => by simp at h, fun j k u u' g h => by simp at h, fun k u g h => by simp at h⟩
theorem OwnT.nil (w : World) (base : Nat) (T E : TypeId) : OwnT w base T E (.slice none 0 0) [] [] := OwnT.of_empty (World.ownsRow_nil _ _ _ _)
theorem OwnT.get (h : OwnT w base T E v us ts) {k : Nat} {u : Value} (hu : us[k]? = some u) : ∃ t, ts[k]? = some t ∧ w.ownsRow base E 1 u t.sides.length (flatC encI t.sides) := by
  have hk := (List.getElem?_eq_some_iff.1 hu).1
  have hr := List.getElem?_eq_getElem (l := ts) (i := k) (by rw [← h.len]; exact hk)
  exact ⟨_, hr, h.inner k u _ hu hr⟩
theorem OwnT.lt (h : OwnT w base T E v us ts) : ∀ g, v.ownBlock = some g → base ≤ g ∧ g < w.heap.size := h.outer.lt
theorem OwnT.ltIn (h : OwnT w base T E v us ts) {k : Nat} {u : Value} (hu : us[k]? = some u) : ∀ g, u.ownBlock = some g → base ≤ g ∧ g < w.heap.size := by
  obtain ⟨t, _, hr⟩ := h.get hu
  exact hr.lt
theorem OwnT.kept {row : Option Nat} (h : OwnT w base T E v us ts) (hg : w.grownBy w' row) (h1 : ∀ g, row = some g → v.ownBlock ≠ some g ∧ ∀ (k : Nat) (u : Value), us[k]? = some u → u.ownBlock ≠ some g) : OwnT w' base T E v us ts := by
  have ho : ∀ x : Value, (∀ g, row = some g → x.ownBlock ≠ some g) → x.ownBlock = none ∨ x.ownBlock ≠ row := fun x hx => by
    cases hb : x.ownBlock with
    | none => exact .inl rfl
    | some g => exact .inr fun e => hx g e.symm hb
  exact ⟨h.len, h.outer.kept hg (ho v fun g e => (h1 g e).1), fun k u r hu hr => (h.inner k u r hu hr).kept hg (ho u fun g e => (h1 g e).2 k u hu), h.apart, h.off⟩
theorem OwnT.below (h : OwnT w base T E v us ts) (hb : Below w.heap.size w w') : OwnT w' base T E v us ts :=
  h.kept (grown_below hb none) (fun g e => by cases e)
theorem OwnT.alloc (h : OwnT w base T E v us ts) (o : Obj) : OwnT (w.alloc o) base T E v us ts :=
  h.kept (World.grownBy_alloc w o none) (fun g e => by cases e)
theorem OwnT.rebase (h : OwnT w base T E v us ts) {base' : Nat} (hb : base' ≤ base) : OwnT w base' T E v us ts := by
  have hd : ∀ {e s x n xs}, w.ownsRow base e s x n xs → w.ownsRow base' e s x n xs := fun h => ⟨h.1, h.2.imp id (fun ⟨g, cap, cur, h1, h2, h3⟩ => ⟨g, cap, cur, h1, Nat.le_trans hb h2, h3⟩)⟩
  exact ⟨h.len, hd h.outer, fun k u r hu hr => hd (h.inner k u r hu hr), h.apart, h.off⟩
theorem OwnT.setBelow (h : OwnT w base T E v us ts) {p : Addr} (hp : p.block < base) (x : Value) : OwnT (w.setCell p x) base T E v us ts := by
  refine h.kept (row := some p.block) ⟨rfl, rfl, rfl, by simp, fun k hk hne => Below.heap_setCell _ _ _ _ (fun e => hne (by rw [e]))⟩ (fun g e => ?_)
  injection e with e
  subst e
  refine ⟨fun e => ?_, fun k u hu e => ?_⟩
  · have := (h.lt _ e).1; omega
  · have := (h.ltIn hu _ e).1; omega
/-- one more tile t, whose sides the slice x owns -/
theorem OwnT.push {w1 : World} {v' x : Value} {N : Nat} {t : Ti} (h : OwnT w1 base T E v us ts) (hN : us.length = N) (hx : w1.ownsRow base E 1 x t.sides.length (flatC encI t.sides))
    (hd : ∀ g, x.ownBlock = some g → v.ownBlock ≠ some g ∧ ∀ (k : Nat) (u : Value), us[k]? = some u → u.ownBlock ≠ some g)
    (hown : w'.ownsRow base T 2 v' (N + 1) (flatC encNU ((ts.map Ti.name).zip us) ++ [.string t.name, x])) (hg : w1.grownBy w' v.ownBlock) (hat : v'.ownBlock = v.ownBlock ∨ v'.ownBlock = some w1.heap.size) : OwnT w' base T E v' (us ++ [x]) (ts ++ [t]) := by
  subst hN
  have hk : ∀ {u : Value} {n : Nat} {r : List Value}, w1.ownsRow base E 1 u n r → (∀ g, u.ownBlock = some g → v.ownBlock ≠ some g) → w'.ownsRow base E 1 u n r := fun {u n r} hu hne => by
    refine hu.kept hg ?_
    cases hb : u.ownBlock with
    | none => exact .inl rfl
    | some g => exact .inr fun e => hne g hb e.symm
  have hcase : ∀ {k : Nat} {u : Value}, (us ++ [x])[k]? = some u → (k < us.length ∧ us[k]? = some u) ∨ (k = us.length ∧ u = x) := fun {k u} hu => by
    rcases Nat.lt_or_ge k us.length with hlt | hge
    · rw [List.getElem?_append_left hlt] at hu
      exact .inl ⟨hlt, hu⟩
    · have hlt := (List.getElem?_eq_some_iff.1 hu).1
      simp at hlt
      obtain rfl : k = us.length := by omega
      simp at hu
      exact .inr ⟨rfl, hu.symm⟩
  refine ⟨by simp [h.len], ?_, fun k u q hu hq => ?_, fun j k u u' g hu0 hu' hb hb' => ?_, fun k u g hu hb e => ?_⟩
  · rw [List.map_append, List.zip_append (by simp [h.len]), List.length_append, List.length_singleton]
    show w'.ownsRow base T 2 v' (us.length + 1) (flatC encNU ((ts.map Ti.name).zip us ++ [(t.name, x)]))
    rw [flatC_snoc]; exact hown
  · rcases hcase hu with ⟨hlt, hu⟩ | ⟨rfl, rfl⟩
    · rw [List.getElem?_append_left (by rw [← h.len]; exact hlt)] at hq
      exact hk (h.inner k u q hu hq) fun g hg => h.off k u g hu hg
    · rw [h.len] at hq
      simp at hq
      subst hq
      exact hk hx fun g hg => (hd g hg).1
  · rcases hcase hu0 with ⟨hlt, hu⟩ | ⟨rfl, rfl⟩
    · clear hu0
      rcases hcase hu' with ⟨hlt', hu'⟩ | ⟨rfl, rfl⟩
      · exact h.apart j k u u' g hu hu' hb hb'
      · exact ((hd g hb').2 j u hu hb).elim
    · rcases hcase hu' with ⟨hlt', hu'⟩ | ⟨rfl, rfl⟩
      · exact ((hd g hb).2 k u' hu' hb').elim
      · rfl
  · rcases hcase hu with ⟨hlt, hu⟩ | ⟨rfl, rfl⟩
    · rcases hat with hat | hat
      · exact h.off k u g hu hb (hat ▸ e)
      · have := (h.ltIn hu g hb).2
        rw [hat] at e
        injection e with e
        omega
    · rcases hat with hat | hat
      · exact (hd g hb).1 (hat ▸ e)
      · have := (hx.lt g hb).2
        rw [hat] at e
        injection e with e
        omega
theorem OwnT.rd (h : OwnT w base T E v us ts) : ∃ A cap, v = .slice A ts.length cap ∧ RdSl 2 RTi w A ts.length ts := by
  have hz : ((ts.map Ti.name).zip us).length = us.length := by simp [h.len]
  obtain ⟨A, cap, hv, hc⟩ := rd_of_flat encNU_len (by rw [hz]; exact h.outer)
  rw [hz, h.len] at hv hc
  refine ⟨A, cap, hv, rfl, fun hp => ?_⟩
  obtain ⟨g, hA, _, hg, hc⟩ := hc hp
  refine ⟨g, 0, hA, hg, fun k hk => ?_⟩
  have hku : k < us.length := by rw [h.len]; exact hk
  have hzk : ((ts.map Ti.name).zip us)[k]? = some (ts[k].name, us[k]) := by
    rw [List.getElem?_eq_getElem (by rw [hz]; exact hku)]
    simp [List.getElem_zip]
  have h0 := hc k _ hzk 0 _ rfl
  have h1 := hc k _ hzk 1 _ rfl
  obtain ⟨A2, c2, hu, hr⟩ := rdI_of_flat (h.inner k _ _ (List.getElem?_eq_getElem hku) (List.getElem?_eq_getElem hk))
  rw [Nat.zero_add]
  refine ⟨h0, A2, _, c2, ?_, hr⟩
  rw [← hu]; exact h1
end
section
variable {P : Program} {ops : Array Oper}
theorem wpD_append_atN {o : Oper} {rest : List (Oper × Tag)} {a : Act} {w : World} {Q : Act → World → Prop} (hgd : o.guard = none) (s x : Operand) (t : TypeId)
    (ho : o.op = .call { callee := .builtin .append, args := #[s, x], argTypes := #[t, t] })
    (base : Nat) (e : TypeId) (i : TypeInfo) (z : Value) (size bytes : Nat) (ht : P.underlying t = some (.slice e)) (hi : P.info? e = some i) (hz : i.zero = some z)
    (hsize : i.size = size) (hby : i.bytes = bytes) (hzs : z.cells.size = size) (hsz : 0 < size)
    (v : Value) (n : Nat) (xs : List Value) (hs : a.eval s = v) (hown : w.ownsRow base e size v n xs)
    (ad : Addr) (m c : Nat) (news : List Value) (hx : a.eval x = .slice (some ad) m c) (hl : news.length = m * size) (hnews : ∀ j u, news[j]? = some u → w.cell? (ad.add j) = some u) (h1 : ∀ u ∈ news, u.oneCell' = true)
    (h63 : n + m ≤ maxLen) (hbytes : (n + m) * bytes ≤ 140737488355328) (hbase : base ≤ w.heap.size)
    (h : ∀ v' w', w'.ownsRow base e size v' (n + m) (xs ++ news) → w.grownBy w' v.ownBlock → (v'.ownBlock = v.ownBlock ∨ v'.ownBlock = some w.heap.size) → wpD P ops Q rest (a.put o.dst v') w') : wpD P ops Q ((o, .b) :: rest) a w := by
  refine wpD_b fun K hK => ?_
  have hw : Region.wanted o (yielded ops a.tmps) = true := by simp [Region.wanted, hgd]
  rw [if_pos hw]
  obtain ⟨v', w', hrun, h2, h3, _, h4⟩ := run_append_own_at (P := P) w base t o.type e i z size bytes ht hi hz hsize hby hzs hsz v n xs hown ad m c news hl hnews h1 h63 hbytes hbase
  unfold execOp
  simp only [ho, resolve, invoke, builtin, Sem.run_bind, Sem.run_pure, Result.andThen_ok, List.map_toArray, List.map_cons, List.map_nil, hs, hx, hrun]
  exact hK _ _ (h v' w' h2 h3 h4)
end
theorem cell_two_newN (w : World) (a b : Value) (t : TypeId) : ∀ j u, [a, b][j]? = some u → (w.alloc (Obj.cells #[a, b] t)).cell? ((⟨w.heap.size, 0, none⟩ : Addr).add j) = some u := by
  intro j u hj
  match j, hj with
  | 0, hj => simp at hj; subst hj; simp [Addr.add]
  | 1, hj => simp at hj; subst hj; simp [Addr.add]
  | j + 2, hj => simp at hj
end Go.Proofs.YtmhgjgclclnmaaaGreat
/- Walks: numbers drawn from a source, its bytes left open; appends in regions with calls that turn the source. -/


namespace Go.Proofs.YtmhgjgclclnmaaaGreat
open Go.RowKit
attribute [local go_sem] BelowBy.cell BelowBy.cell_drew stillUpon givesUpon KpBy.cell KpBy.cell_drew

/-- a source in block p of which at most K numbers were asked -/
def SrcE (w : World) (p K : Nat) : Prop := ∃ (C : Option Addr) (n c : Nat) (bs : List Nat) (a s : Nat), Src w p C n c bs a s ∧ a ≤ K ∧ n ≤ 1000000
theorem SrcE.lt {w : World} {p K : Nat} (h : SrcE w p K) : p < w.heap.size := by obtain ⟨_, _, _, _, _, _, h, _⟩ := h; exact h.lt
theorem SrcE.below {w w' : World} {p K : Nat} (h : SrcE w p K) (hb : Below w.heap.size w w') : SrcE w' p K := by
  obtain ⟨C, n, c, bs, a, s, h, h1, h2⟩ := h; exact ⟨C, n, c, bs, a, s, h.below hb, h1, h2⟩
theorem SrcE.belowB {B : Nat} {w w' : World} {p K : Nat} (h : SrcE w p K) (hp : p < B) (hb : Below B w w') : SrcE w' p K := by
  obtain ⟨C, n, c, bs, a, s, h, h1, h2⟩ := h; exact ⟨C, n, c, bs, a, s, h.belowB hp hb, h1, h2⟩
theorem SrcE.more {w : World} {p K K' : Nat} (h : SrcE w p K) (hk : K ≤ K') : SrcE w p K' := by
  obtain ⟨C, n, c, bs, a, s, h, h1, h2⟩ := h; exact ⟨C, n, c, bs, a, s, h, Nat.le_trans h1 hk, h2⟩
/-- a drawn number -/
def PickE (p K N : Nat) (w : World) (e : Ending) (w' : World) : Prop := ∃ v : Nat, e = .returned (.int .i64 (v : Int)) ∧ v < N ∧ SrcE w' p (K + 1) ∧ Kp p w w'
theorem pickE_any {p K : Nat} {N : Int} (M : Nat) {w : World} (h : SrcE w p K) (hK : K ≤ 900000) (hN : N = M) (h1 : 1 ≤ M) (h2 : M ≤ 200) :
    Calls Tryz.prog 43 #[.pointer (some ⟨p, 0, none⟩), .int .i64 N] w (PickE p K M w) := by
  subst hN
  obtain ⟨C, n, c, bs, a, s, h, ha, hn⟩ := h
  rcases Nat.lt_or_ge M 2 with h3 | h3
  · obtain rfl : M = 1 := by omega
    have hH := Lib.hid h
    clear h
    go_enter Tryz.func43, Tryz.ntmps43
    go_wp2
    go_ret
    exact ⟨0, rfl, by omega, ⟨C, n, c, bs, a, s, hH.out, by omega, hn⟩, Kp.refl _ _⟩
  · refine (pick_any h (by omega) hn h3 h2).mono ?_
    rintro e w1 ⟨v, s', rfl, hv, hS, hk⟩
    exact ⟨v, rfl, hv, ⟨C, n, c, bs, _, _, hS, by omega, hn⟩, hk⟩
def OneE (p K : Nat) (w : World) (e : Ending) (w' : World) : Prop := ∃ v : Bool, e = .returned (.bool v) ∧ SrcE w' p (K + 1) ∧ Kp p w w'
set_option maxRecDepth 100000 in
theorem oneE_any {p K : Nat} {N : Int} (M : Nat) {w : World} (h : SrcE w p K) (hK : K ≤ 900000) (hN : N = M) (h1 : 1 ≤ M) (h2 : M ≤ 200) :
    Calls Tryz.prog 40 #[.pointer (some ⟨p, 0, none⟩), .int .i64 N] w (OneE p K w) := by
  subst hN
  have hH := Lib.hid h
  clear h
  go_enter Tryz.func40, Tryz.ntmps40
  go_wp2_with (go_at_call 43; refine (pickE_any M hH.out hK rfl h1 h2).mono ?_; rintro e w1 ⟨v, rfl, hv, hS, hb⟩; have hSH := Lib.hid hS; have hbH := Lib.hid hb; clear hS hb)
  go_ret
  exact ⟨_, rfl, hSH.out, hbH.out⟩
theorem l00FromE_any {C : Option Addr} {n c : Nat} {bs : List Nat} {w : World} (h : RdSl 1 RBy w C n bs) (hn : n ≤ 1000000) :
    Calls Tryz.prog 39 #[.slice C n c] w fun e w' => ∃ p, e = .returned (.pointer (some ⟨p, 0, none⟩)) ∧ w.heap.size ≤ p ∧ SrcE w' p 0 ∧ Below w.heap.size w w' := by
  refine (l00From_any _ h).mono ?_
  rintro e w1 ⟨p, rfl, hp, hS, hb⟩
  exact ⟨p, rfl, hp, ⟨C, n, c, bs, 0, 0, hS, Nat.le_refl _, hn⟩, hb⟩
/-- the blocks of a world but the source's -/
theorem Kp.blockOf {p : Nat} {w w' : World} (h : Kp p w w') {b : Nat} (hb : b ≠ p) (hl : b < w.heap.size) : w'.heap[b]? = w.heap[b]? := h.keep b hb hl
theorem Kp.lt {p : Nat} {w w' : World} (h : Kp p w w') {b : Nat} (hl : b < w.heap.size) : b < w'.heap.size := Nat.lt_of_lt_of_le hl h.below.size
theorem Kp.grown {p : Nat} {w w' : World} (h : Kp p w w') : w.grownBy w' (some p) := ⟨h.below.os, h.below.tape, h.below.output, h.below.size, fun k hk hne => h.keep k (fun e => hne (by rw [e])) hk⟩
theorem Kp.thenGrown {p B : Nat} {w w1 w2 : World} {row : Option Nat} (h : Kp p w w1) (hB : w.heap.size ≤ B) (hBw : B ≤ w1.heap.size) (hpw : p < w.heap.size) (hg : w1.grownBy w2 row) (hr : ∀ g, row = some g → B ≤ g) : Kp p w w2 := by
  have hb : Below B w1 w2 := (Below.refl B w1).grown hg hBw hr
  exact h.thenB hpw (hb.mono hB)
theorem Own_kp {p B : Nat} {w w' : World} {e : TypeId} {size : Nat} {v : Value} {n : Nat} {xs : List Value} (h : w.ownsRow B e size v n xs) (hp : p < B) (hk : Kp p w w') : w'.ownsRow B e size v n xs := by
  refine h.kept hk.grown ?_
  cases hb : v.ownBlock with
  | none => exact .inl rfl
  | some g => exact .inr fun e' => by have := (h.lt g hb).1; injection e'; omega
theorem OwnT.kp {p B : Nat} {w w' : World} {T E : TypeId} {v : Value} {us : List Value} {ts : List Ti} (h : OwnT w B T E v us ts) (hp : p < B) (hk : Kp p w w') : OwnT w' B T E v us ts :=
  h.kept hk.grown fun g e => by
    injection e with e
    subst e
    exact ⟨fun e' => by have := (h.lt _ e').1; omega, fun k u hu e' => by have := (h.ltIn hu _ e').1; omega⟩
theorem ownsRow_bB {w w' : World} {base B0 : Nat} {e : TypeId} {size : Nat} {v : Value} {n : Nat} {xs : List Value} (h : w.ownsRow base e size v n xs) (hlt : ∀ g, v.ownBlock = some g → g < B0) (hb : Below B0 w w') : w'.ownsRow base e size v n xs := by
  rcases h.2 with ⟨rfl, h0⟩ | ⟨g, cap, cur, rfl, h1, h2, h3⟩
  · exact ⟨h.1, .inl ⟨rfl, h0⟩⟩
  · exact ⟨h.1, .inr ⟨g, cap, cur, rfl, h1, (hb.block g (hlt g rfl)).trans h2, h3⟩⟩
theorem OwnT.bB {w w' : World} {base B0 : Nat} {T E : TypeId} {v : Value} {us : List Value} {ts : List Ti} (h : OwnT w base T E v us ts) (hl : w.heap.size ≤ B0) (hb : Below B0 w w') : OwnT w' base T E v us ts := h.below (hb.mono hl)
/-- a box of the call's own: its cells, none of them frozen -/
structure Bx (W : World) (b : Nat) (l : List Value) : Prop where
  lt : b < W.heap.size
  cell : ∀ j u, l[j]? = some u → W.cell? ⟨b, j, none⟩ = some u
  froz : ∀ j, W.frozen? ⟨b, j, none⟩ = false
theorem Bx.of_block {W W' : World} {b : Nat} {l : List Value} (h : Bx W b l) (hs : W.heap.size ≤ W'.heap.size) (hk : W'.heap[b]? = W.heap[b]?) : Bx W' b l :=
  ⟨Nat.lt_of_lt_of_le h.lt hs, fun j u hu => (World.cell?_of_block (a := ⟨b, j, none⟩) hk).trans (h.cell j u hu), fun j => (World.frozen?_of_block (a := ⟨b, j, none⟩) hk).trans (h.froz j)⟩
theorem Bx.below {W W' : World} {b : Nat} {l : List Value} (h : Bx W b l) (hb : Below W.heap.size W W') : Bx W' b l := h.of_block hb.size (hb.block b h.lt)
theorem Bx.belowB {B : Nat} {W W' : World} {b : Nat} {l : List Value} (h : Bx W b l) (hlt : b < B) (hb : Below B W W') : Bx W' b l := h.of_block hb.size (hb.block b hlt)
theorem Bx.kp {p : Nat} {W W' : World} {b : Nat} {l : List Value} (h : Bx W b l) (hne : b ≠ p) (hk : Kp p W W') : Bx W' b l := h.of_block hk.below.size (hk.keep b hne h.lt)
theorem Bx.grown {W W' : World} {b : Nat} {l : List Value} {row : Option Nat} (h : Bx W b l) (hg : W.grownBy W' row) (hne : row ≠ some b) : Bx W' b l := h.of_block hg.size (hg.block b h.lt (fun e => hne e.symm))
theorem Bx.setOther {W : World} {b : Nat} {l : List Value} (h : Bx W b l) {a : Addr} (hne : a.block ≠ b) (u : Value) : Bx (W.setCell a u) b l := h.of_block (by simp) (Below.heap_setCell _ _ _ _ (fun e => hne e.symm))
theorem Bx.setSame {W : World} {b : Nat} {l : List Value} (h : Bx W b l) (i : Nat) (u : Value) : Bx (W.setCell ⟨b, i, none⟩ u) b (l.set i u) := by
  refine ⟨by simpa using h.lt, fun j v hv => ?_, fun j => ?_⟩
  · by_cases e : i = j
    · subst e
      rw [List.getElem?_set_self' ] at hv
      cases hl : l[i]? with
      | none => rw [hl] at hv; cases hv
      | some x =>
        rw [hl] at hv
        have hv2 : u = v := by simpa using hv
        subst hv2
        have hc := h.cell i x hl
        have hlt := h.lt
        go_simp
    · rw [List.getElem?_set_ne e] at hv
      have hc := h.cell j v hv
      have hlt := h.lt
      have e2 : j ≠ i := fun e' => e e'.symm
      go_simp
  · have := h.froz j
    have hlt := h.lt
    go_simp
theorem Bx.made (W : World) (l : List Value) (t : TypeId) : Bx (W.alloc (.cells l.toArray t)) W.heap.size l := by
  refine ⟨by simp, fun j u hu => ?_, fun j => by go_simp⟩
  have h := heap_alloc_new W (.cells l.toArray t)
  simp only [World.cell?, h]
  simpa using hu
section
variable {P : Program} {ops : Array Oper} {p : Nat}
theorem wpK_append_at {o : Oper} {rest : List (Oper × Tag)} {a : Act} {w : World} {Q : Act → World → Prop} (hgd : o.guard = none) (s x : Operand) (t : TypeId)
    (ho : o.op = .call { callee := .builtin .append, args := #[s, x], argTypes := #[t, t] })
    (base : Nat) (e : TypeId) (i : TypeInfo) (z : Value) (size bytes : Nat) (ht : P.underlying t = some (.slice e)) (hi : P.info? e = some i) (hz : i.zero = some z)
    (hsize : i.size = size) (hby : i.bytes = bytes) (hzs : z.cells.size = size) (hsz : 0 < size)
    (v : Value) (n : Nat) (xs : List Value) (hs : a.eval s = v) (hown : w.ownsRow base e size v n xs)
    (ad : Addr) (m c : Nat) (news : List Value) (hx : a.eval x = .slice (some ad) m c) (hl : news.length = m * size) (hnews : ∀ j u, news[j]? = some u → w.cell? (ad.add j) = some u) (h1 : ∀ u ∈ news, u.oneCell' = true)
    (h63 : n + m ≤ maxLen) (hbytes : (n + m) * bytes ≤ 140737488355328) (hbase : base ≤ w.heap.size)
    (h : ∀ v' w', w'.ownsRow base e size v' (n + m) (xs ++ news) → w.grownBy w' v.ownBlock → (v'.ownBlock = v.ownBlock ∨ v'.ownBlock = some w.heap.size) → wpK P ops p Q rest (a.put o.dst v') w') : wpK P ops p Q ((o, .b) :: rest) a w := by
  refine wpK_b fun K hK => ?_
  have hw : Region.wanted o (yielded ops a.tmps) = true := by simp [Region.wanted, hgd]
  rw [if_pos hw]
  obtain ⟨v', w', hrun, h2, h3, _, h4⟩ := run_append_own_at (P := P) w base t o.type e i z size bytes ht hi hz hsize hby hzs hsz v n xs hown ad m c news hl hnews h1 h63 hbytes hbase
  unfold execOp
  simp only [ho, resolve, invoke, builtin, Sem.run_bind, Sem.run_pure, Result.andThen_ok, List.map_toArray, List.map_cons, List.map_nil, hs, hx, hrun]
  exact hK _ _ (h v' w' h2 h3 h4)
end
end Go.Proofs.YtmhgjgclclnmaaaGreat
