import Derived.Test.YtkppijcjmhkkkaaGAJ
import Derived.Test.YtkppijcjmhkkkaaGAX
set_option linter.unusedSimpArgs false
set_option linter.unusedVariables false
/- slices.SortFunc at rows of placed tiles that a call has made. -/


namespace Go.Proofs.Ytkppijcjmhkkkaa
open Go.RowKit Go.Shelf Go.Lib Go.Sort
attribute [local go_sem] BelowBy.cell BelowBy.cell_drew stillUpon givesUpon

set_option maxRecDepth 100000
def mkPl (f : Pt → Int) (p : Pt) : Pl := ⟨p.x, p.y, f p⟩
def encPl (f : Pt → Int) (p : Pt) : List Value := [.int .i64 p.x, .int .i64 p.y, .int .i64 (f p)]
def tileOfV (L : List Pl) (p : Pt) : Int := match L.find? (fun e => decide (e.x = p.x ∧ e.y = p.y)) with
  | some e => e.t
  | none => 0
def ptOf (e : Pl) : Pt := ⟨e.x, e.y⟩
theorem tileOf_mem {L : List Pl} (h : L.Pairwise apart) : ∀ e ∈ L, tileOfV L (ptOf e) = e.t := by
  induction L with
  | nil => intro e he; simp at he
  | cons d l ih =>
    obtain ⟨h1, h2⟩ := List.pairwise_cons.1 h
    intro e he
    unfold tileOfV
    rw [List.find?_cons]
    rcases List.mem_cons.1 he with rfl | he
    · simp [ptOf]
    · have h3 : ¬ (d.x = e.x ∧ d.y = e.y) := h1 e he
      have h4 : decide (d.x = (ptOf e).x ∧ d.y = (ptOf e).y) = false := decide_eq_false h3
      rw [h4]
      exact ih h2 e he
theorem mk_ptOf {L : List Pl} (h : L.Pairwise apart) : (L.map ptOf).map (mkPl (tileOfV L)) = L := by
  rw [List.map_map]
  have : ∀ e ∈ L, (mkPl (tileOfV L) ∘ ptOf) e = e := fun e he => by
    have := tileOf_mem h e he
    simp only [Function.comp, mkPl, this]
    cases e; rfl
  rw [List.map_congr_left this, List.map_id'']
  intro x; rfl
theorem sort_ptOf {L : List Pl} (h : L.Pairwise apart) : (sortP (L.map ptOf)).map (mkPl (tileOfV L)) = sortPl L := by
  have hp : ((sortP (L.map ptOf)).map (mkPl (tileOfV L))).Perm L := by
    have h1 : ((sortP (L.map ptOf)).map (mkPl (tileOfV L))).Perm ((L.map ptOf).map (mkPl (tileOfV L))) := (List.mergeSort_perm _ _).map _
    rw [mk_ptOf h] at h1
    exact h1
  refine List.Perm.eq_of_pairwise (le := fun a b => ltPl a b = true) ?_ ?_ (sortPl_strict h) (hp.trans (List.mergeSort_perm _ _).symm)
  · intro a b _ _ h1 h2
    rw [ltPl_iff] at h1 h2; omega
  · have h1 : ((sortP (L.map ptOf)).map (mkPl (tileOfV L))).Pairwise apart := hp.symm.pairwise h apart_symm
    have h2 : ((sortP (L.map ptOf)).map (mkPl (tileOfV L))).Pairwise (fun a b => lePl a b = true) := by
      rw [List.pairwise_map]
      have hs : (sortP (L.map ptOf)).Pairwise (fun a b => (!(ltOf cmpP) b a) = true) := by
        refine List.pairwise_mergeSort ?_ ?_ _
        · intro a b c h1 h2
          have := swo_cmpP.ntrans (x := c) (y := b) (z := a) (by simpa using h2) (by simpa using h1)
          simp [this]
        · intro a b
          cases h1 : ltOf cmpP a b
          · simp
          · have := (swo_cmpP.asymm h1)
            simp [this]
      refine hs.imp ?_
      intro a b h
      rw [ltOf_cmpP] at h
      exact h
    refine (List.Pairwise.and h1 h2).imp ?_
    intro a b hab
    have h3 := (lePl_iff a b).1 hab.2
    have h4 : ¬ (a.x = b.x ∧ a.y = b.y) := hab.1
    rw [ltPl_iff]; omega
theorem flat_pl (f : Pt → Int) (L : List Pt) : (flatK (encPl f) 3 L.toArray).toList = plCells (L.map (mkPl f)) := by
  apply List.ext_getElem?
  intro t
  rw [Array.getElem?_toList]
  by_cases ht : t < L.length * 3
  · have hs : t < (flatK (encPl f) 3 L.toArray).size := by rw [size_flatK]; simpa using ht
    have h1 : (flatK (encPl f) 3 L.toArray)[t]? = some (flatK (encPl f) 3 L.toArray)[t]! := by rw [getElem!_pos _ t hs, Array.getElem?_eq_getElem hs]
    rw [h1, get_flatK _ _ _ _ (by simpa using ht)]
    have hq : t / 3 < L.length := by omega
    have hg := plCells_get (L.map (mkPl f)) (t / 3) (mkPl f L[t / 3]) (by rw [List.getElem?_map, List.getElem?_eq_getElem hq]; rfl)
    have he : L.toArray[t / 3]! = L[t / 3] := by rw [getElem!_pos _ _ (by simpa using hq)]; simp
    rw [he]
    rcases (show t % 3 = 0 ∨ t % 3 = 1 ∨ t % 3 = 2 by omega) with hm | hm | hm
    · rw [hm]
      have : t / 3 * 3 = t := by omega
      rw [this] at hg
      rw [hg.1]; rfl
    · rw [hm]
      have : t / 3 * 3 + 1 = t := by omega
      rw [this] at hg
      rw [hg.2.1]; rfl
    · rw [hm]
      have : t / 3 * 3 + 2 = t := by omega
      rw [this] at hg
      rw [hg.2.2]; rfl
  · rw [Array.getElem?_eq_none (by rw [size_flatK]; simpa using ht), List.getElem?_eq_none (by rw [plCells_len, List.length_map]; omega)]
theorem holds_rowPl {f : Pt → Int} {w : World} {g : Nat} {cur : Array Value} {e : TypeId} {L : List Pt} (hb : w.heap[g]? = some (.cells cur e (0, 0))) (ht : cur.toList.take (L.length * 3) = plCells (L.map (mkPl f))) : HoldsK (encPl f) 3 w g 0 L.toArray := by
  intro j hj
  rw [size_flatK] at hj
  have hj' : j < L.length * 3 := by simpa using hj
  refine ⟨?_, by simp [World.frozen?, hb]⟩
  have h1 : (cur.toList.take (L.length * 3))[j]? = (plCells (L.map (mkPl f)))[j]? := by rw [ht]
  rw [List.getElem?_take_of_lt hj', ← flat_pl, Array.getElem?_toList, Array.getElem?_toList] at h1
  have hs : j < (flatK (encPl f) 3 L.toArray).size := by rw [size_flatK]; simpa using hj'
  simp only [World.cell?, hb, Nat.zero_add]
  simp only [Option.isSome_none, Bool.false_eq_true, if_false, id]
  rw [h1, getElem!_pos _ j hs, Array.getElem?_eq_getElem hs]
theorem heap_sortedPl {f : Pt → Int} {w : World} {g n : Nat} {os : Array Obj} {cur : Array Value} {e : TypeId} {fr : Nat × Nat} (d : Array Pt) (hb : w.heap[g]? = some (.cells cur e fr)) :
    (sortWorldK (encPl f) 3 w g 0 n d os).heap[g]? = some (.cells (putCells id 0 (flatK (encPl f) 3 d) cur) e fr) := by
  have hg : g < w.heap.size := (Array.getElem?_eq_some_iff.1 hb).1
  unfold sortWorldK putRowK
  rw [heap_grow_old _ _ (by simpa using hg)]
  simp [putRow, mapBlock, Sort.ahead, Array.getElem?_modify, hb, onCells]
theorem grownBy_sortedPl {f : Pt → Int} {w : World} {g n : Nat} {os : Array Obj} (d : Array Pt) : w.grownBy (sortWorldK (encPl f) 3 w g 0 n d os) (some g) := by
  refine ⟨rfl, rfl, rfl, by simp [sortWorldK, putRowK], fun k hk hne => ?_⟩
  unfold sortWorldK putRowK
  rw [heap_grow_old _ _ (by simpa using hk)]
  have : g ≠ k := fun e => hne (by rw [e])
  simp [putRow, mapBlock, Sort.ahead, Array.getElem?_modify, this]
theorem take_putPl (f : Pt → Int) (cur : Array Value) (L : List Pt) (h : L.length * 3 ≤ cur.size) : (putCells id 0 (flatK (encPl f) 3 L.toArray) cur).toList.take (L.length * 3) = plCells (L.map (mkPl f)) := by
  rw [← flat_pl]
  apply List.ext_getElem?
  intro j
  by_cases hj : j < L.length * 3
  · have hs : j < (flatK (encPl f) 3 L.toArray).size := by rw [size_flatK]; simpa using hj
    rw [List.getElem?_take_of_lt hj, Array.getElem?_toList, Array.getElem?_toList]
    simp only [putCells, Array.getElem?_mapIdx, Nat.zero_le, Nat.zero_add, true_and, Nat.sub_zero]
    rw [Array.getElem?_eq_getElem (show j < cur.size by omega)]
    simp only [Option.map_some, id]
    rw [if_pos hs, getElem!_pos _ j hs, Array.getElem?_eq_getElem hs]
  · rw [List.getElem?_take_eq_none (by omega), Array.getElem?_toList, Array.getElem?_eq_none (by rw [size_flatK]; simpa using hj)]
end Go.Proofs.Ytkppijcjmhkkkaa
/- Walks: what a pair of hands asks of a set, a temperature and assemblies. -/

namespace Go.Proofs.Ytkppijcjmhkkkaa
open Go.RowKit Go.Shelf
attribute [local go_sem] BelowBy.cell BelowBy.cell_drew stillUpon givesUpon BelowBy.cell_drew2 BelowBy.cell_drew3

/-- a set is read -/
structure TS (w : World) (G : Option Addr) (n : Nat) (T : Option Addr) (m : Nat) (gs : List Gl) (ts : List Ti) : Prop where
  G : RdSl 2 RGl w G n gs
  T : RdSl 2 RTi w T m ts
  gm : n ≤ 1073741824
  tm : m ≤ 1073741824
  gn : ∀ (k : Nat) (e : Gl), gs[k]? = some e → e.name.size ≤ 9223372036854775807
  tn : ∀ (k : Nat) (e : Ti), ts[k]? = some e → e.name.size ≤ 9223372036854775807 ∧ e.sides.length ≤ 9223372036854775807
section
variable {w w' : World} {G T A : Option Addr} {n cg m ct q ca : Nat} {gs : List Gl} {ts : List Ti} {xs : List Pl}
theorem TS.below (h : TS w G n T m gs ts) (hb : Below w.heap.size w w') : TS w' G n T m gs ts :=
  ⟨h.G.below RGl.stable hb, h.T.below RTi.stable hb, h.gm, h.tm, h.gn, h.tn⟩
theorem TS.sa (h : TS w G n T m gs ts) (hA : RdSl 3 RPl w A q xs) (hq : q ≤ 1073741824) : SA w G n T m A q gs ts xs := ⟨h.G, h.T, hA, h.gm, h.tm, hq, h.gn, h.tn⟩
theorem SA.toTS (h : SA w G n T m A q gs ts xs) : TS w G n T m gs ts := ⟨h.G, h.T, h.gm, h.tm, h.gn, h.tn⟩
end
/-- a block of assemblies -/
def LRow (w : World) (g : Nat) (Ls : List (List Pl)) : Prop := g < w.heap.size ∧ ∀ (k : Nat) (l : List Pl), Ls[k]? = some l → ∃ A q c, w.cell? ⟨g, k, none⟩ = some (.slice A q c) ∧ RdSl 3 RPl w A q l ∧ q ≤ 1073741824
theorem LRow.below {w w' : World} {g : Nat} {Ls : List (List Pl)} (h : LRow w g Ls) (hb : Below w.heap.size w w') : LRow w' g Ls := by
  refine ⟨Nat.lt_of_lt_of_le h.1 hb.size, fun k l hk => ?_⟩
  obtain ⟨A, q, c, h1, h2, h3⟩ := h.2 k l hk
  exact ⟨A, q, c, (hb.cell (p := ⟨g, k, none⟩) h.1).trans h1, h2.below RPl.stable hb, h3⟩
/-- the box of a pair of hands -/
structure HBox (w : World) (p : Nat) (G : Option Addr) (n : Nat) (T : Option Addr) (m : Nat) (gs : List Gl) (ts : List Ti) : Prop where
  lt : p < w.heap.size
  c0 : ∃ cg, w.cell? ⟨p, 0, none⟩ = some (.slice G n cg)
  c1 : ∃ ct, w.cell? ⟨p, 1, none⟩ = some (.slice T m ct)
  ts : TS w G n T m gs ts
theorem HBox.below {w w' : World} {p : Nat} {G T : Option Addr} {n m : Nat} {gs : List Gl} {ts : List Ti} (h : HBox w p G n T m gs ts) (hb : Below w.heap.size w w') : HBox w' p G n T m gs ts := by
  obtain ⟨cg, h0⟩ := h.c0
  obtain ⟨ct, h1⟩ := h.c1
  exact ⟨Nat.lt_of_lt_of_le h.lt hb.size, ⟨cg, (hb.cell (p := ⟨p, 0, none⟩) h.lt).trans h0⟩, ⟨ct, (hb.cell (p := ⟨p, 1, none⟩) h.lt).trans h1⟩, h.ts.below hb⟩
def okL (gs : List Gl) (ts : List Ti) (Ls : List (List Pl)) (k : Nat) : Bool := match Ls[k]? with
  | some l => validAsmB gs ts l
  | none => true
theorem okL_eq {gs : List Gl} {ts : List Ti} {Ls : List (List Pl)} {k : Nat} {l : List Pl} (h : Ls[k]? = some l) : okL gs ts Ls k = validAsmB gs ts l := by unfold okL; rw [h]
def codeH (gs : List Gl) (ts : List Ti) (Ls : List (List Pl)) (t : Int) : Int :=
  if (validSetB gs ts && allB Ls.length (okL gs ts Ls)) = false then 1 else if inB t 1 16 = false then 2 else 0
end Go.Proofs.Ytkppijcjmhkkkaa
/- Walks: placed tiles sorted to an assembly; two assemblies joined; an assembly in normal form. -/



namespace Go.Proofs.Ytkppijcjmhkkkaa
open Go.RowKit Go.Shelf
attribute [local go_sem] BelowBy.cell BelowBy.cell_drew stillUpon givesUpon BelowBy.cell_drew2 BelowBy.cell_drew3

theorem ownsRow_baseU {w : World} {base base' : Nat} {e : TypeId} {size : Nat} {v : Value} {n : Nat} {xs : List Value} (h : w.ownsRow base e size v n xs) (hb : base' ≤ base) : w.ownsRow base' e size v n xs :=
  ⟨h.1, h.2.imp id (fun ⟨g, cap, cur, h1, h2, h3⟩ => ⟨g, cap, cur, h1, Nat.le_trans hb h2, h3⟩)⟩
end Go.Proofs.Ytkppijcjmhkkkaa
