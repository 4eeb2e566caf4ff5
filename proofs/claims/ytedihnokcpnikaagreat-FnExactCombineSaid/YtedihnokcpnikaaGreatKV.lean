import Derived.Test.YtedihnokcpnikaaGreatW36
import Derived.Test.YtedihnokcpnikaaGreatQ4
import Derived.Test.YtedihnokcpnikaaGreatN1
import Derived.Test.YtedihnokcpnikaaGreatOrdFl
import Derived.Test.YtedihnokcpnikaaGreatHAsm
import Derived.Test.YtedihnokcpnikaaGreatOwnFl
import Derived.Test.YtedihnokcpnikaaGreatOrdApp
set_option linter.unusedSimpArgs false
set_option linter.unusedVariables false
/- Plain facts: two assemblies put together are a row of both in order. -/

namespace Go.Proofs.YtedihnokcpnikaaGreat
open Go.RowKit
def ltPl (a b : Pl) : Bool := lessPt a.x a.y b.x b.y
def lePl (a b : Pl) : Bool := !ltPl b a
/-- placed tiles in order of their points -/
def sortPl (L : List Pl) : List Pl := L.mergeSort lePl
def apart (a b : Pl) : Prop := ¬ (a.x = b.x ∧ a.y = b.y)
def SortPl (L : List Pl) : Prop := L.Pairwise fun a b => ltPl a b = true
theorem ltPl_iff (a b : Pl) : ltPl a b = true ↔ a.y < b.y ∨ (a.y = b.y ∧ a.x < b.x) := lessPt_iff _ _ _ _
theorem lePl_iff (a b : Pl) : lePl a b = true ↔ a.y < b.y ∨ (a.y = b.y ∧ a.x ≤ b.x) := by
  unfold lePl
  have := ltPl_iff b a
  cases h : ltPl b a
  · rw [h] at this
    simp only [Bool.not_false, true_iff]
    have h2 : ¬ (b.y < a.y ∨ (b.y = a.y ∧ b.x < a.x)) := fun hc => by have := this.2 hc; cases this
    omega
  · rw [h] at this
    have h2 := this.1 rfl
    simp only [Bool.not_true, Bool.false_eq_true, false_iff]
    omega
theorem lePl_trans (a b c : Pl) (h : lePl a b = true) (k : lePl b c = true) : lePl a c = true := by
  rw [lePl_iff] at *; omega
theorem lePl_total (a b : Pl) : (lePl a b || lePl b a) = true := by
  rw [Bool.or_eq_true, lePl_iff, lePl_iff]; omega
theorem sortPl_len (L : List Pl) : (sortPl L).length = L.length := List.length_mergeSort _
theorem sortPl_mem {L : List Pl} {p : Pl} : p ∈ sortPl L ↔ p ∈ L := List.mem_mergeSort
theorem sortPl_weak (L : List Pl) : (sortPl L).Pairwise (fun a b => lePl a b = true) := List.pairwise_mergeSort lePl_trans lePl_total L
theorem apart_symm {a b : Pl} (h : apart a b) : apart b a := fun ⟨h1, h2⟩ => h ⟨h1.symm, h2.symm⟩
theorem SortPl.weak {L : List Pl} (h : SortPl L) : L.Pairwise (fun a b => lePl a b = true) := h.imp fun {a b} h => by
  rw [ltPl_iff] at h; rw [lePl_iff]; omega
theorem SortPl.apart {L : List Pl} (h : SortPl L) : L.Pairwise apart := h.imp fun {a b} h => by
  rw [ltPl_iff] at h; unfold Proofs.YtedihnokcpnikaaGreat.apart; omega
theorem sortPl_strict {L : List Pl} (h : L.Pairwise apart) : SortPl (sortPl L) := by
  have h1 : (sortPl L).Pairwise apart := (List.mergeSort_perm L lePl).symm.pairwise h apart_symm
  have h2 := sortPl_weak L
  refine (List.Pairwise.and h1 h2).imp ?_
  intro a b hab
  have h3 := (lePl_iff a b).1 hab.2
  have h4 : ¬ (a.x = b.x ∧ a.y = b.y) := hab.1
  rw [ltPl_iff]; omega
theorem merge_sortPl {xs ms : List Pl} (hx : SortPl xs) (hm : SortPl ms) (ha : (xs ++ ms).Pairwise apart) : List.merge xs ms lePl = sortPl (xs ++ ms) := by
  have hp : (List.merge xs ms lePl).Perm (xs ++ ms) := List.merge_perm_append lePl
  refine List.Perm.eq_of_pairwise (le := fun a b => ltPl a b = true) ?_ ?_ (sortPl_strict ha) (hp.trans (List.mergeSort_perm _ _).symm)
  · intro a b _ _ h1 h2
    rw [ltPl_iff] at h1 h2; omega
  · have h1 : (List.merge xs ms lePl).Pairwise apart := hp.symm.pairwise ha apart_symm
    have h2 : (List.merge xs ms lePl).Pairwise (fun a b => lePl a b = true) := List.pairwise_merge lePl_trans lePl_total _ _ hx.weak hm.weak
    refine (List.Pairwise.and h1 h2).imp ?_
    intro a b hab
    have h3 := (lePl_iff a b).1 hab.2
    have h4 : ¬ (a.x = b.x ∧ a.y = b.y) := hab.1
    rw [ltPl_iff]; omega
theorem free_apart {gs : List Gl} {ts : List Ti} {xs ms : List Pl} (hV : Valid gs ts xs) {j : Nat} {e : Pl} (he : ms[j]? = some e) (hf : freeAt xs ms j = true) : ∀ d ∈ xs, apart d e := by
  intro d hd ⟨hx, hy⟩
  obtain ⟨k, hk⟩ := List.getElem?_of_mem hd
  have := IsPlace.eq hV (place_found hk hx hy)
  rw [freeAt_eq he, decide_eq_true_eq] at hf
  omega
theorem sortPl_valid {gs : List Gl} {ts : List Ti} {xs : List Pl} (hV : Valid gs ts xs) : SortPl xs := by
  unfold SortPl
  rw [List.pairwise_iff_getElem]
  intro i j hi hj hij
  exact hV.sorted i j _ _ hij (List.getElem?_eq_getElem hi) (List.getElem?_eq_getElem hj)
theorem sortPl_mv {xs : List Pl} (h : SortPl xs) (dx dy : Int) : SortPl (mvL dx dy xs) := by
  unfold SortPl mvL
  rw [List.pairwise_map]
  refine List.Pairwise.imp ?_ h
  intro a b h
  unfold ltPl mvP at *
  simp only
  rw [lessPt_mv]
  exact h
/-- the facts of two assemblies of which the second stands free -/
structure Two (gs : List Gl) (ts : List Ti) (xs ms : List Pl) : Prop where
  V : Valid gs ts xs
  srt : SortPl ms
  pt : ∀ (k : Nat) (e : Pl), ms[k]? = some e → (-60 ≤ e.x ∧ e.x ≤ 60) ∧ (-60 ≤ e.y ∧ e.y ≤ 60) ∧ ∃ t : Nat, e.t = t ∧ t < ts.length
  fr : ∀ j, j < ms.length → freeAt xs ms j = true
theorem Two.apart {gs : List Gl} {ts : List Ti} {xs ms : List Pl} (h : Two gs ts xs ms) : (xs ++ ms).Pairwise apart := by
  rw [List.pairwise_append]
  refine ⟨(sortPl_valid h.V).apart, h.srt.apart, fun d hd e he => ?_⟩
  obtain ⟨k, hk⟩ := List.getElem?_of_mem he
  exact free_apart h.V hk (h.fr k (lt_of_get hk)) d hd
theorem Two.sorted {gs : List Gl} {ts : List Ti} {xs ms : List Pl} (h : Two gs ts xs ms) : SortPl (sortPl (xs ++ ms)) := sortPl_strict h.apart
theorem Two.merge {gs : List Gl} {ts : List Ti} {xs ms : List Pl} (h : Two gs ts xs ms) : List.merge xs ms lePl = sortPl (xs ++ ms) := merge_sortPl (sortPl_valid h.V) h.srt h.apart
theorem Two.valid {gs : List Gl} {ts : List Ti} {xs ms : List Pl} (h : Two gs ts xs ms) (hl : xs.length + ms.length ≤ 500) : Valid gs ts (sortPl (xs ++ ms)) := by
  have hmem : ∀ e ∈ sortPl (xs ++ ms), (-60 ≤ e.x ∧ e.x ≤ 60) ∧ (-60 ≤ e.y ∧ e.y ≤ 60) ∧ ∃ t : Nat, e.t = t ∧ t < ts.length := by
    intro e he
    rcases List.mem_append.1 (sortPl_mem.1 he) with he | he
    · obtain ⟨k, hk⟩ := List.getElem?_of_mem he
      exact ⟨(h.V.pt k e hk).1, (h.V.pt k e hk).2, h.V.ti k e hk⟩
    · obtain ⟨k, hk⟩ := List.getElem?_of_mem he
      exact h.pt k e hk
  refine { len := ?_, gl := h.V.gl, tl := h.V.tl, pt := ?_, ti := ?_, sorted := ?_, four := h.V.four, side := h.V.side, str := h.V.str }
  · rw [sortPl_len, List.length_append]; exact hl
  · intro k e hk
    have := hmem e (List.mem_of_getElem? hk)
    exact ⟨this.1, this.2.1⟩
  · intro k e hk
    exact (hmem e (List.mem_of_getElem? hk)).2.2
  · intro i j d e hij hd he
    obtain ⟨hi, rfl⟩ := List.getElem?_eq_some_iff.1 hd
    obtain ⟨hj, rfl⟩ := List.getElem?_eq_some_iff.1 he
    exact List.pairwise_iff_getElem.1 h.sorted i j hi hj hij
theorem mvOk_zero {gs : List Gl} {ts : List Ti} {xs : List Pl} (hV : Valid gs ts xs) : mvOk 0 0 xs = true := by
  refine allB_true fun j hj => ?_
  have he := List.getElem?_eq_getElem hj
  rw [okMv_eq he]
  have := hV.pt j _ he
  unfold validPt
  rw [Bool.and_eq_true, inB_true, inB_true]
  omega
theorem mvL_zero (xs : List Pl) : mvL 0 0 xs = xs := by
  unfold mvL
  have : mvP 0 0 = id := by funext e; cases e; simp [mvP]
  rw [this, List.map_id]
theorem hasForm_valid {gs : List Gl} {ts : List Ti} {xs : List Pl} (hV : Valid gs ts xs) : hasFormB xs = true := by
  have := hasForm_mv 0 0 hV
  rw [mvL_zero, mvOk_zero hV] at this
  exact this
/-- an assembly in normal form -/
def normE (zs : List Pl) : List Pl × Int := match zs with
  | [] => ([], 3)
  | e :: l => if mvOk (-e.x) (-e.y) (e :: l) = true then (mvL (-e.x) (-e.y) (e :: l), 0) else ([], 2)
theorem normE_ok {zs : List Pl} {e : Pl} (h : zs[0]? = some e) (hm : mvOk (-e.x) (-e.y) zs = true) : (mvL (-e.x) (-e.y) zs, 0) = normE zs := by
  cases zs with
  | nil => simp at h
  | cons d l =>
    simp at h
    subst h
    exact (if_pos hm).symm
theorem normE_no {zs : List Pl} {e : Pl} (h : zs[0]? = some e) (hm : mvOk (-e.x) (-e.y) zs = false) : (([], 2) : List Pl × Int) = normE zs := by
  cases zs with
  | nil => simp at h
  | cons d l =>
    simp at h
    subst h
    exact (if_neg (by rw [hm]; decide)).symm
noncomputable def combE (gs : List Gl) (ts : List Ti) (xs ys : List Pl) (T dx dy : Int) : List Pl × Int :=
  if (joinM gs ts xs ys dx dy).2 = 0 then
    if (joinM gs ts xs ys dx dy).1 < T then ([], 5)
    else if 500 < xs.length + ys.length then ([], 4) else normE (sortPl (xs ++ mvL dx dy ys))
  else ([], (joinM gs ts xs ys dx dy).2)
noncomputable def combR (gs : List Gl) (ts : List Ti) (xs ys : List Pl) (T dx dy : Int) : List Pl × Int :=
  if askJ gs ts xs ys = false then ([], 1) else if inB T 1 16 = false then ([], 2) else combE gs ts xs ys T dx dy
theorem combE_code {gs : List Gl} {ts : List Ti} {xs ys : List Pl} {T dx dy s c : Int} (h : joinM gs ts xs ys dx dy = (s, c)) (hc : ¬ c = 0) : (([], c) : List Pl × Int) = combE gs ts xs ys T dx dy := by
  unfold combE; rw [h, if_neg hc]
theorem combE_weak {gs : List Gl} {ts : List Ti} {xs ys : List Pl} {T dx dy s : Int} (h : joinM gs ts xs ys dx dy = (s, 0)) (hs : s < T) : (([], 5) : List Pl × Int) = combE gs ts xs ys T dx dy := by
  unfold combE; rw [h, if_pos rfl, if_pos hs]
theorem combE_full {gs : List Gl} {ts : List Ti} {xs ys : List Pl} {T dx dy s : Int} (h : joinM gs ts xs ys dx dy = (s, 0)) (hs : ¬ s < T) (hl : 500 < xs.length + ys.length) : (([], 4) : List Pl × Int) = combE gs ts xs ys T dx dy := by
  unfold combE; rw [h, if_pos rfl, if_neg hs, if_pos hl]
theorem combE_norm {gs : List Gl} {ts : List Ti} {xs ys : List Pl} {T dx dy s : Int} (h : joinM gs ts xs ys dx dy = (s, 0)) (hs : ¬ s < T) (hl : ¬ 500 < xs.length + ys.length) : normE (sortPl (xs ++ mvL dx dy ys)) = combE gs ts xs ys T dx dy := by
  unfold combE; rw [h, if_pos rfl, if_neg hs, if_neg hl]
/-- what a strength without an error says -/
theorem joinM_ok {gs : List Gl} {ts : List Ti} {xs ys : List Pl} {dx dy s : Int} (hV : Valid gs ts xs) (hV2 : Valid gs ts ys) (h : joinM gs ts xs ys dx dy = (s, 0)) :
    inB dx (-120) 120 = true ∧ inB dy (-120) 120 = true ∧ mvOk dx dy ys = true ∧ Two gs ts xs (mvL dx dy ys) ∧ s = sumJ gs ts xs (mvL dx dy ys) (mvL dx dy ys).length := by
  unfold joinM at h
  cases hx : inB dx (-120) 120
  · rw [if_pos hx] at h; injection h with h1 h2; cases h2
  cases hy : inB dy (-120) 120
  · rw [if_neg (by rw [hx]; decide), if_pos hy] at h; injection h with h1 h2; cases h2
  cases hm : mvOk dx dy ys
  · rw [if_neg (by rw [hx]; decide), if_neg (by rw [hy]; decide), if_pos hm] at h; injection h with h1 h2; cases h2
  rw [if_neg (by rw [hx]; decide), if_neg (by rw [hy]; decide), if_neg (by rw [hm]; decide)] at h
  unfold joinE at h
  by_cases hf : allB (mvL dx dy ys).length (freeAt xs (mvL dx dy ys)) = true
  · rw [if_pos hf] at h
    injection h with h1 h2
    exact ⟨rfl, rfl, rfl, ⟨hV, sortPl_mv (sortPl_valid hV2) dx dy, fun k e h => mv_pt hV2 hm h, fun j hj => allB_at hf hj⟩, h1.symm⟩
  · rw [if_neg hf] at h; injection h with h1 h2; cases h2
theorem join_first {gs : List Gl} {ts : List Ti} {xs ms : List Pl} {T s : Int} (hT : 1 ≤ T) (hs : ¬ s < T) (h : s = sumJ gs ts xs ms ms.length) : ∃ e, (sortPl (xs ++ ms))[0]? = some e := by
  cases ms with
  | nil => simp [sumJ] at h; omega
  | cons d l => exact ⟨_, List.getElem?_eq_getElem (by rw [sortPl_len]; simp; omega)⟩
end Go.Proofs.YtedihnokcpnikaaGreat
/- slices.SortFunc at rows of placed tiles that a call has made. -/


namespace Go.Proofs.YtedihnokcpnikaaGreat
open Go.RowKit Go.Shelf Go.Lib Go.Sort
attribute [local go_sem] BelowBy.cell BelowBy.cell_drew stillUpon givesUpon

set_option maxRecDepth 100000
def mkPl (f : Pt → Int) (p : Pt) : Pl := ⟨p.x, p.y, f p⟩
def encPl (f : Pt → Int) (p : Pt) : List Value := [.int .i64 p.x, .int .i64 p.y, .int .i64 (f p)]
def tileOf (L : List Pl) (p : Pt) : Int := match L.find? (fun e => decide (e.x = p.x ∧ e.y = p.y)) with
  | some e => e.t
  | none => 0
def ptOf (e : Pl) : Pt := ⟨e.x, e.y⟩
theorem tileOf_mem {L : List Pl} (h : L.Pairwise apart) : ∀ e ∈ L, tileOf L (ptOf e) = e.t := by
  induction L with
  | nil => intro e he; simp at he
  | cons d l ih =>
    obtain ⟨h1, h2⟩ := List.pairwise_cons.1 h
    intro e he
    unfold tileOf
    rw [List.find?_cons]
    rcases List.mem_cons.1 he with rfl | he
    · simp [ptOf]
    · have h3 : ¬ (d.x = e.x ∧ d.y = e.y) := h1 e he
      have h4 : decide (d.x = (ptOf e).x ∧ d.y = (ptOf e).y) = false := decide_eq_false h3
      rw [h4]
      exact ih h2 e he
theorem mk_ptOf {L : List Pl} (h : L.Pairwise apart) : (L.map ptOf).map (mkPl (tileOf L)) = L := by
  rw [List.map_map]
  have : ∀ e ∈ L, (mkPl (tileOf L) ∘ ptOf) e = e := fun e he => by
    have := tileOf_mem h e he
    simp only [Function.comp, mkPl, this]
    cases e; rfl
  rw [List.map_congr_left this, List.map_id'']
  intro x; rfl
theorem sort_ptOf {L : List Pl} (h : L.Pairwise apart) : (sortP (L.map ptOf)).map (mkPl (tileOf L)) = sortPl L := by
  have hp : ((sortP (L.map ptOf)).map (mkPl (tileOf L))).Perm L := by
    have h1 : ((sortP (L.map ptOf)).map (mkPl (tileOf L))).Perm ((L.map ptOf).map (mkPl (tileOf L))) := (List.mergeSort_perm _ _).map _
    rw [mk_ptOf h] at h1
    exact h1
  refine List.Perm.eq_of_pairwise (le := fun a b => ltPl a b = true) ?_ ?_ (sortPl_strict h) (hp.trans (List.mergeSort_perm _ _).symm)
  · intro a b _ _ h1 h2
    rw [ltPl_iff] at h1 h2; omega
  · have h1 : ((sortP (L.map ptOf)).map (mkPl (tileOf L))).Pairwise apart := hp.symm.pairwise h apart_symm
    have h2 : ((sortP (L.map ptOf)).map (mkPl (tileOf L))).Pairwise (fun a b => lePl a b = true) := by
      rw [List.pairwise_map]
      have hs : (sortP (L.map ptOf)).Pairwise (fun a b => (!(ltOf cmpP) b a) = true) := by
        refine List.pairwise_mergeSort ?_ ?_ _
        · intro a b c h1 h2
          have := swo_cmpP.ntrans (x := c) (y := b) (z := a) (by simpa using h2) (by simpa using h1)
          simp [this]
        · intro a b
          cases h1 : ltOf cmpP a b
          · simp
          · have := (swo_cmpP.asymm h1)
            simp [this]
      refine hs.imp ?_
      intro a b h
      rw [ltOf_cmpP] at h
      exact h
    refine (List.Pairwise.and h1 h2).imp ?_
    intro a b hab
    have h3 := (lePl_iff a b).1 hab.2
    have h4 : ¬ (a.x = b.x ∧ a.y = b.y) := hab.1
    rw [ltPl_iff]; omega
theorem flat_pl (f : Pt → Int) (L : List Pt) : (flatK (encPl f) 3 L.toArray).toList = plCells (L.map (mkPl f)) := by
  apply List.ext_getElem?
  intro t
  rw [Array.getElem?_toList]
  by_cases ht : t < L.length * 3
  · have hs : t < (flatK (encPl f) 3 L.toArray).size := by rw [size_flatK]; simpa using ht
    have h1 : (flatK (encPl f) 3 L.toArray)[t]? = some (flatK (encPl f) 3 L.toArray)[t]! := by rw [getElem!_pos _ t hs, Array.getElem?_eq_getElem hs]
    rw [h1, get_flatK _ _ _ _ (by simpa using ht)]
    have hq : t / 3 < L.length := by omega
    have hg := plCells_get (L.map (mkPl f)) (t / 3) (mkPl f L[t / 3]) (by rw [List.getElem?_map, List.getElem?_eq_getElem hq]; rfl)
    have he : L.toArray[t / 3]! = L[t / 3] := by rw [getElem!_pos _ _ (by simpa using hq)]; simp
    rw [he]
    rcases (show t % 3 = 0 ∨ t % 3 = 1 ∨ t % 3 = 2 by omega) with hm | hm | hm
    · rw [hm]
      have : t / 3 * 3 = t := by omega
      rw [this] at hg
      rw [hg.1]; rfl
    · rw [hm]
      have : t / 3 * 3 + 1 = t := by omega
      rw [this] at hg
      rw [hg.2.1]; rfl
    · rw [hm]
      have : t / 3 * 3 + 2 = t := by omega
      rw [this] at hg
      rw [hg.2.2]; rfl
  · rw [Array.getElem?_eq_none (by rw [size_flatK]; simpa using ht), List.getElem?_eq_none (by rw [plCells_len, List.length_map]; omega)]
theorem holds_rowPl {f : Pt → Int} {w : World} {g : Nat} {cur : Array Value} {e : TypeId} {L : List Pt} (hb : w.heap[g]? = some (.cells cur e (0, 0))) (ht : cur.toList.take (L.length * 3) = plCells (L.map (mkPl f))) : HoldsK (encPl f) 3 w g 0 L.toArray := by
  intro j hj
  rw [size_flatK] at hj
  have hj' : j < L.length * 3 := by simpa using hj
  refine ⟨?_, by simp [World.frozen?, hb]⟩
  have h1 : (cur.toList.take (L.length * 3))[j]? = (plCells (L.map (mkPl f)))[j]? := by rw [ht]
  rw [List.getElem?_take_of_lt hj', ← flat_pl, Array.getElem?_toList, Array.getElem?_toList] at h1
  have hs : j < (flatK (encPl f) 3 L.toArray).size := by rw [size_flatK]; simpa using hj'
  simp only [World.cell?, hb, Nat.zero_add]
  simp only [Option.isSome_none, Bool.false_eq_true, if_false, id]
  rw [h1, getElem!_pos _ j hs, Array.getElem?_eq_getElem hs]
theorem heap_sortedPl {f : Pt → Int} {w : World} {g n : Nat} {os : Array Obj} {cur : Array Value} {e : TypeId} {fr : Nat × Nat} (d : Array Pt) (hb : w.heap[g]? = some (.cells cur e fr)) :
    (sortWorldK (encPl f) 3 w g 0 n d os).heap[g]? = some (.cells (putCells id 0 (flatK (encPl f) 3 d) cur) e fr) := by
  have hg : g < w.heap.size := (Array.getElem?_eq_some_iff.1 hb).1
  unfold sortWorldK putRowK
  rw [heap_grow_old _ _ (by simpa using hg)]
  simp [putRow, mapBlock, Sort.ahead, Array.getElem?_modify, hb, onCells]
theorem grownBy_sortedPl {f : Pt → Int} {w : World} {g n : Nat} {os : Array Obj} (d : Array Pt) : w.grownBy (sortWorldK (encPl f) 3 w g 0 n d os) (some g) := by
  refine ⟨rfl, rfl, rfl, by simp [sortWorldK, putRowK], fun k hk hne => ?_⟩
  unfold sortWorldK putRowK
  rw [heap_grow_old _ _ (by simpa using hk)]
  have : g ≠ k := fun e => hne (by rw [e])
  simp [putRow, mapBlock, Sort.ahead, Array.getElem?_modify, this]
theorem take_putPl (f : Pt → Int) (cur : Array Value) (L : List Pt) (h : L.length * 3 ≤ cur.size) : (putCells id 0 (flatK (encPl f) 3 L.toArray) cur).toList.take (L.length * 3) = plCells (L.map (mkPl f)) := by
  rw [← flat_pl]
  apply List.ext_getElem?
  intro j
  by_cases hj : j < L.length * 3
  · have hs : j < (flatK (encPl f) 3 L.toArray).size := by rw [size_flatK]; simpa using hj
    rw [List.getElem?_take_of_lt hj, Array.getElem?_toList, Array.getElem?_toList]
    simp only [putCells, Array.getElem?_mapIdx, Nat.zero_le, Nat.zero_add, true_and, Nat.sub_zero]
    rw [Array.getElem?_eq_getElem (show j < cur.size by omega)]
    simp only [Option.map_some, id]
    rw [if_pos hs, getElem!_pos _ j hs, Array.getElem?_eq_getElem hs]
  · rw [List.getElem?_take_eq_none (by omega), Array.getElem?_toList, Array.getElem?_eq_none (by rw [size_flatK]; simpa using hj)]
theorem assemblyLess_exact (f : Pt → Int) (x y : Pt) (w : World) :
    Calls Tryz.prog 145 #[.agg #[.int .i64 x.x, .int .i64 x.y, .int .i64 (f x)], .agg #[.int .i64 y.x, .int .i64 y.y, .int .i64 (f y)]] w fun e w' => e = .returned (.int .i64 (cmpP x y)) ∧ ∃ q os, w' = grow (w.drewN q) os := by
  go_enter Tryz.func145, Tryz.ntmps145
  go_wp2_with fail
  refine (comparePoints_exact x y _).mono ?_
  rintro e w1 ⟨rfl, q, os, rfl⟩
  go_wp2
  go_ret
  refine ⟨rfl, ?_⟩
  have hdg : ∀ (w : World) (os : Array Obj), (grow w os).drewN q = grow (w.drewN q) os := fun w os => rfl
  simp only [alloc_eq_grow, drew_grow, grow_grow, hdg, World.drew_is_drewN, World.drewN_drewN]
  exact ⟨_, _, rfl⟩
set_option maxHeartbeats 1000000 in
theorem SortFuncPl_any (L : List Pl) (hap : L.Pairwise apart) (B g cap : Nat) (w : World) (hrow : w.ownsRow B 127 3 (.slice (some ⟨g, 0, none⟩) L.length cap) L.length (plCells L)) (hl : L.length ≤ 1000000) :
    Calls Tryz.prog 144 #[.slice (some ⟨g, 0, none⟩) L.length cap, .func (.func 145) #[] #[]] w fun e w' => e = .returned (.tuple #[]) ∧
      w'.ownsRow B 127 3 (.slice (some ⟨g, 0, none⟩) L.length cap) L.length (plCells (sortPl L)) ∧ w.grownBy w' (some g) := by
  rcases hrow with ⟨hcl, h0 | ⟨g', cap', cur, hv, hB, hb, h1, h2, h3, h4⟩⟩
  · cases h0.1
  cases hv
  have hmk := mk_ptOf hap
  have hso := sort_ptOf hap
  obtain ⟨P, hP⟩ : ∃ P, L.map ptOf = P := ⟨_, rfl⟩
  obtain ⟨f, hf⟩ : ∃ f, tileOf L = f := ⟨_, rfl⟩
  rw [hP, hf] at hmk hso
  have hPl : P.length = L.length := by rw [← hP, List.length_map]
  have eg : ∀ args w, (callFunc 145 args).run Tryz.prog w = .ok (.enter 145 args) w := enters_of Tryz.func145 (by kernel_rfl) rfl
  rw [← hmk, List.length_map] at h4
  have hH := holds_rowPl (f := f) hb h4
  have hgl := (Array.getElem?_eq_some_iff.1 hb).1
  have hcon := AnyQ.slices_SortFunc_total Tryz.sortPl 3 Tryz.isAgg127 Tryz.sizeOf127 (encPl f) (fun _ => rfl) (fun x v hv => by simp [encPl] at hv; rcases hv with rfl | rfl | rfl <;> rfl) cmpP swo_cmpP 145 #[] g 0 cap P.toArray w eg
    (fun _ _ _ _ x y => assemblyLess_exact f x y _) hH hgl (by simp; omega) part_cmpP
  have hPs : P.toArray.size = L.length := by simpa using hPl
  rw [hPs] at hcon
  refine hcon.mono ?_
  rintro e w' ⟨he, n, os, rfl⟩
  refine ⟨he, ?_, grownBy_sortedPl _⟩
  have hsl := sortPl_len L
  refine ⟨by rw [plCells_len, hsl], .inr ⟨g, cap, _, rfl, hB, heap_sortedPl _ hb, h1, h2, by simp [putCells, h3], ?_⟩⟩
  have := take_putPl f cur (sortP P) (by rw [sortP_len, hPl, h3]; exact Nat.mul_le_mul_right 3 h1)
  rw [sortP_len, hPl, hso] at this
  exact this
end Go.Proofs.YtedihnokcpnikaaGreat
/- Walks: what a pair of hands asks of a set, a temperature and assemblies. -/

namespace Go.Proofs.YtedihnokcpnikaaGreat
open Go.RowKit Go.Shelf
attribute [local go_sem] BelowBy.cell BelowBy.cell_drew stillUpon givesUpon BelowBy.cell_drew2 BelowBy.cell_drew3

/-- a set is read -/
structure TS (w : World) (G : Option Addr) (n : Nat) (T : Option Addr) (m : Nat) (gs : List Gl) (ts : List Ti) : Prop where
  G : RdSl 2 RGl w G n gs
  T : RdSl 2 RTi w T m ts
  gm : n ≤ 1073741824
  tm : m ≤ 1073741824
  gn : ∀ (k : Nat) (e : Gl), gs[k]? = some e → e.name.size ≤ 9223372036854775807
  tn : ∀ (k : Nat) (e : Ti), ts[k]? = some e → e.name.size ≤ 9223372036854775807 ∧ e.sides.length ≤ 9223372036854775807
section
variable {w w' : World} {G T A : Option Addr} {n cg m ct q ca : Nat} {gs : List Gl} {ts : List Ti} {xs : List Pl}
theorem TS.below (h : TS w G n T m gs ts) (hb : Below w.heap.size w w') : TS w' G n T m gs ts :=
  ⟨h.G.below RGl.stable hb, h.T.below RTi.stable hb, h.gm, h.tm, h.gn, h.tn⟩
theorem TS.sa (h : TS w G n T m gs ts) (hA : RdSl 3 RPl w A q xs) (hq : q ≤ 1073741824) : SA w G n T m A q gs ts xs := ⟨h.G, h.T, hA, h.gm, h.tm, hq, h.gn, h.tn⟩
theorem SA.toTS (h : SA w G n T m A q gs ts xs) : TS w G n T m gs ts := ⟨h.G, h.T, h.gm, h.tm, h.gn, h.tn⟩
theorem TS.valid {v : Bool} (h : TS w G n T m gs ts) (hv : validSetB gs ts = v) :
    Calls Tryz.prog 71 #[.agg #[.slice G n cg, .slice T m ct]] w fun e w' => e = .returned (.bool v) ∧ Below w.heap.size w w' := by
  rw [← hv]; exact ValidSet_any _ _ _ _ _ _ gs ts _ h.G h.T (Nat.le_trans h.gm (by decide)) (Nat.le_trans h.tm (by decide)) h.gn h.tn
end
/-- a block of assemblies -/
def LRow (w : World) (g : Nat) (Ls : List (List Pl)) : Prop := g < w.heap.size ∧ ∀ (k : Nat) (l : List Pl), Ls[k]? = some l → ∃ A q c, w.cell? ⟨g, k, none⟩ = some (.slice A q c) ∧ RdSl 3 RPl w A q l ∧ q ≤ 1073741824
theorem LRow.below {w w' : World} {g : Nat} {Ls : List (List Pl)} (h : LRow w g Ls) (hb : Below w.heap.size w w') : LRow w' g Ls := by
  refine ⟨Nat.lt_of_lt_of_le h.1 hb.size, fun k l hk => ?_⟩
  obtain ⟨A, q, c, h1, h2, h3⟩ := h.2 k l hk
  exact ⟨A, q, c, (hb.cell (p := ⟨g, k, none⟩) h.1).trans h1, h2.below RPl.stable hb, h3⟩
theorem isTempH_any (t : Int) (w : World) : Calls Tryz.prog 75 #[.int .i64 t] w fun e w' => e = .returned (.bool (inB t 1 16)) ∧ w = w' := by
  go_enter Tryz.func75, Tryz.ntmps75
  go_wp2_with (go_at_call 113; refine (within_any _ _ _ _).mono ?_; rintro e w' ⟨rfl, rfl⟩)
  go_ret
  exact ⟨ret_bool rfl, rfl⟩
theorem isTempH_at {t : Int} {v : Bool} {w : World} (h : inB t 1 16 = v) : Calls Tryz.prog 75 #[.int .i64 t] w fun e w' => e = .returned (.bool v) ∧ w = w' := by
  rw [← h]; exact isTempH_any t w
/-- the box of a pair of hands -/
structure HBox (w : World) (p : Nat) (G : Option Addr) (n : Nat) (T : Option Addr) (m : Nat) (gs : List Gl) (ts : List Ti) : Prop where
  lt : p < w.heap.size
  c0 : ∃ cg, w.cell? ⟨p, 0, none⟩ = some (.slice G n cg)
  c1 : ∃ ct, w.cell? ⟨p, 1, none⟩ = some (.slice T m ct)
  ts : TS w G n T m gs ts
theorem HBox.below {w w' : World} {p : Nat} {G T : Option Addr} {n m : Nat} {gs : List Gl} {ts : List Ti} (h : HBox w p G n T m gs ts) (hb : Below w.heap.size w w') : HBox w' p G n T m gs ts := by
  obtain ⟨cg, h0⟩ := h.c0
  obtain ⟨ct, h1⟩ := h.c1
  exact ⟨Nat.lt_of_lt_of_le h.lt hb.size, ⟨cg, (hb.cell (p := ⟨p, 0, none⟩) h.lt).trans h0⟩, ⟨ct, (hb.cell (p := ⟨p, 1, none⟩) h.lt).trans h1⟩, h.ts.below hb⟩
set_option maxRecDepth 100000 in
theorem handsCode1_at {p : Nat} {G T A : Option Addr} {n m q ca : Nat} {gs : List Gl} {ts : List Ti} {xs : List Pl} {v u : Bool} {w : World} (h : HBox w p G n T m gs ts) (hA : RdSl 3 RPl w A q xs) (hq : q ≤ 1073741824) (hv : validAsmB gs ts xs = v) (hu : (!v) = u) :
    Calls Tryz.prog 73 #[.agg #[.slice A q ca], .pointer (some ⟨p, 0, none⟩)] w fun e w' => e = .returned (.bool u) ∧ Below w.heap.size w w' := by
  subst hu
  obtain ⟨cg, h0⟩ := h.c0
  obtain ⟨ct, h1⟩ := h.c1
  have hp := h.lt
  have hS := Lib.hid (h.ts.sa hA hq)
  have hvH := Lib.hid hv
  clear h hA hv
  go_enter Tryz.func73, Tryz.ntmps73
  go_wp2_with (go_at_call 74; refine (SA.valid (hS.out.below (by exact bel_)) hvH.out).mono ?_; rintro e w1 ⟨rfl, hb1⟩; have hb1H := Lib.hid (show Below w.heap.size w w1 by exact bel_); clear hb1)
  go_ret
  exact ⟨rfl, hb1H.out⟩
def okL (gs : List Gl) (ts : List Ti) (Ls : List (List Pl)) (k : Nat) : Bool := match Ls[k]? with
  | some l => validAsmB gs ts l
  | none => true
theorem okL_eq {gs : List Gl} {ts : List Ti} {Ls : List (List Pl)} {k : Nat} {l : List Pl} (h : Ls[k]? = some l) : okL gs ts Ls k = validAsmB gs ts l := by unfold okL; rw [h]
set_option maxRecDepth 100000 in
set_option maxHeartbeats 1000000 in
theorem IndexFuncA_any {p g N c : Nat} {G T : Option Addr} {n m : Nat} {gs : List Gl} {ts : List Ti} {Ls : List (List Pl)} {w : World} (h : HBox w p G n T m gs ts) (hL : LRow w g Ls) (hN : N = Ls.length) (hn : N ≤ 1073741824) :
    Calls Tryz.prog 117 #[.slice (some ⟨g, 0, none⟩) N c, .func (.func 73) #[] #[.pointer (some ⟨p, 0, none⟩)]] w (FirstRes w N (okL gs ts Ls)) := by
  have hH := Lib.hid h
  have hLH := Lib.hid hL
  have hNH := Lib.hid hN
  clear h hL hN
  go_enter Tryz.func117, Tryz.ntmps117
  go_wp2
  go_loopg [8] N (fun r x wr => ∃ k : Nat, k + r = N ∧ x = .int .i64 k ∧ Hid (∀ j, j < k → okL gs ts Ls j = true) ∧ Hid (Below w.heap.size w wr))
  case atStart => exact ⟨0, by omega, rfl, Lib.hid (fun j hj => by omega), Lib.hid (by exact bel_)⟩
  case round =>
    obtain ⟨k, hk, rfl, hok, hbw⟩ := hrel
    by_cases hkn : k < N
    · obtain ⟨l, hl⟩ : ∃ l, Ls[k]? = some l := ⟨_, List.getElem?_eq_getElem (by have := hNH.out; omega)⟩
      obtain ⟨A, q, ca, a0, a1, a2⟩ := (hLH.out.below hbw.out).2 k l hl
      have hgw := (hLH.out.below hbw.out).1
      have hlH := Lib.hid hl
      have a1H := Lib.hid a1
      clear hl a1
      cases hv : validAsmB gs ts l
      all_goals
        have hvH := Lib.hid hv
        clear hv
        go_wp2_with (go_at_call 73; refine (handsCode1_at ((hH.out.below hbw.out).below (by exact bel_)) (a1H.out.below RPl.stable (by exact bel_)) a2 hvH.out rfl).mono ?_; rintro e w1 ⟨rfl, hb1⟩; have hb1H := Lib.hid (show Below wr.heap.size wr w1 by exact bel_); clear hb1)
      · go_ret
        exact ⟨_, rfl, by rw [allB_false hkn (by rw [okL_eq hlH.out]; exact hvH.out)]; simp, hbw.out.trans (hb1H.out.mono hbw.out.size)⟩
      · go_roundg (N - (k + 1))
        case measure => omega
        case rel => exact ⟨k + 1, by omega, by go_num, Lib.hid (fun j hj => by
            rcases Nat.lt_succ_iff_lt_or_eq.1 hj with hj | rfl
            · exact hok.out j hj
            · rw [okL_eq hlH.out]; exact hvH.out), Lib.hid (hbw.out.trans (hb1H.out.mono hbw.out.size))⟩
    · obtain rfl : k = N := by omega
      go_wp2
      go_ret
      exact ⟨_, rfl, by rw [allB_true hok.out]; simp, hbw.out⟩
set_option maxRecDepth 100000 in
set_option maxHeartbeats 1000000 in
theorem ContainsFuncA_at {p g N c : Nat} {G T : Option Addr} {n m : Nat} {gs : List Gl} {ts : List Ti} {Ls : List (List Pl)} {v u : Bool} {w : World} (h : HBox w p G n T m gs ts) (hL : LRow w g Ls) (hN : N = Ls.length) (hn : N ≤ 1073741824) (hv : allB N (okL gs ts Ls) = v) (hu : (!v) = u) :
    Calls Tryz.prog 72 #[.slice (some ⟨g, 0, none⟩) N c, .func (.func 73) #[] #[.pointer (some ⟨p, 0, none⟩)]] w fun e w' => e = .returned (.bool u) ∧ Below w.heap.size w w' := by
  subst hu
  subst hv
  have hH := Lib.hid h
  have hLH := Lib.hid hL
  have hNH := Lib.hid hN
  clear h hL hN
  go_enter Tryz.func72, Tryz.ntmps72
  go_wp2_with (go_at_call 117; refine (IndexFuncA_any (hH.out.below (by exact bel_)) (hLH.out.below (by exact bel_)) hNH.out hn).mono ?_; rintro e w1 ⟨r, rfl, hr, hb1⟩)
  go_ret
  refine ⟨rfl, ?_⟩
  exact bel_
def codeH (gs : List Gl) (ts : List Ti) (Ls : List (List Pl)) (t : Int) : Int :=
  if (validSetB gs ts && allB Ls.length (okL gs ts Ls)) = false then 1 else if inB t 1 16 = false then 2 else 0
set_option maxRecDepth 100000 in
set_option maxHeartbeats 1000000 in
theorem handsCode_any {g N c : Nat} {G T : Option Addr} {n cg m ct : Nat} {gs : List Gl} {ts : List Ti} {Ls : List (List Pl)} {t : Int} {w : World} (h : TS w G n T m gs ts) (hL : LRow w g Ls) (hN : N = Ls.length) (hn : N ≤ 1073741824) :
    Calls Tryz.prog 39 #[.agg #[.slice G n cg, .slice T m ct, .int .i64 t], .slice (some ⟨g, 0, none⟩) N c] w fun e w' => e = .returned (.int .i64 (codeH gs ts Ls t)) ∧ Below w.heap.size w w' := by
  have hB : Hid (HBox (w.alloc (Obj.cells #[.slice G n cg, .slice T m ct, .int .i64 t] 84)) w.heap.size G n T m gs ts) :=
    Lib.hid ⟨by simp, ⟨cg, by go_simp⟩, ⟨ct, by go_simp⟩, h.below (by exact bel_)⟩
  have hH := Lib.hid h
  have hNH := Lib.hid hN
  have hLH := Lib.hid (hL.below (show Below w.heap.size w (w.alloc (Obj.cells #[.slice G n cg, .slice T m ct, .int .i64 t] 84)) by exact bel_))
  clear h hL hN
  cases hs : validSetB gs ts
  · have hR := Lib.hid (show codeH gs ts Ls t = 1 from if_pos (by rw [hs]; rfl))
    have hsH := Lib.hid hs
    clear hs
    go_enter Tryz.func39, Tryz.ntmps39
    go_wp2_with (go_at_call 71; refine (TS.valid (hH.out.below (by exact bel_)) hsH.out).mono ?_; rintro e w1 ⟨rfl, hb1⟩; obtain ⟨chb1, fhb1, shb1, thb1⟩ := bcell hb1; have s1 := shb1 w.heap.size (by go_simp))
    go_ret
    exact ⟨ret_int hR.out.symm, by exact bel_⟩
  · cases ho : allB N (okL gs ts Ls)
    · have hR := Lib.hid (show codeH gs ts Ls t = 1 from if_pos (by rw [hs, ← hNH.out, ho]; rfl))
      have hsH := Lib.hid hs
      have hoH := Lib.hid ho
      clear hs ho
      go_enter Tryz.func39, Tryz.ntmps39
      go_wp2_with (first
        | (go_at_call 71; refine (TS.valid (hH.out.below (by exact bel_)) hsH.out).mono ?_; rintro e w1 ⟨rfl, hb1⟩; obtain ⟨chb1, fhb1, shb1, thb1⟩ := bcell hb1; have s1 := shb1 w.heap.size (by go_simp))
        | (go_at_call 72; refine (ContainsFuncA_at (hB.out.below (by exact bel_)) (hLH.out.below (by exact bel_)) hNH.out hn hoH.out rfl).mono ?_; rintro e w2 ⟨rfl, hb2⟩))
      go_ret
      exact ⟨ret_int hR.out.symm, by exact bel_⟩
    · cases ht : inB t 1 16
      all_goals
        have hR := Lib.hid (show codeH gs ts Ls t = (if inB t 1 16 = false then 2 else 0) from if_neg (by rw [hs, ← hNH.out, ho]; decide))
        have hsH := Lib.hid hs
        have hoH := Lib.hid ho
        have htH := Lib.hid ht
        clear hs ho ht
        go_enter Tryz.func39, Tryz.ntmps39
        go_wp2_with (first
          | (go_at_call 71; refine (TS.valid (hH.out.below (by exact bel_)) hsH.out).mono ?_; rintro e w1 ⟨rfl, hb1⟩; obtain ⟨chb1, fhb1, shb1, thb1⟩ := bcell hb1; have s1 := shb1 w.heap.size (by go_simp))
          | (go_at_call 72; refine (ContainsFuncA_at (hB.out.below (by exact bel_)) (hLH.out.below (by exact bel_)) hNH.out hn hoH.out rfl).mono ?_; rintro e w2 ⟨rfl, hb2⟩; obtain ⟨chb2, fhb2, shb2, thb2⟩ := bcell hb2; have s2 := shb2 w.heap.size (by go_simp))
          | (go_at_call 75; refine (isTempH_at htH.out).mono ?_; rintro e _ ⟨rfl, rfl⟩))
        go_ret
        exact ⟨ret_int (by rw [hR.out, htH.out]; rfl), by exact bel_⟩
end Go.Proofs.YtedihnokcpnikaaGreat
/- Walks: placed tiles sorted to an assembly; two assemblies joined; an assembly in normal form. -/



namespace Go.Proofs.YtedihnokcpnikaaGreat
open Go.RowKit Go.Shelf
attribute [local go_sem] BelowBy.cell BelowBy.cell_drew stillUpon givesUpon BelowBy.cell_drew2 BelowBy.cell_drew3

theorem minus_any (a b c d : Int) (w : World) (h1 : -1000000 ≤ a ∧ a ≤ 1000000) (h2 : -1000000 ≤ b ∧ b ≤ 1000000) (h3 : -1000000 ≤ c ∧ c ≤ 1000000) (h4 : -1000000 ≤ d ∧ d ≤ 1000000) :
    Calls Tryz.prog 131 #[.agg #[.int .i64 a, .int .i64 b], .agg #[.int .i64 c, .int .i64 d]] w fun e w' => e = .returned (.agg #[.int .i64 (a - c), .int .i64 (b - d)]) ∧ Below w.heap.size w w' := by
  go_enter Tryz.func131, Tryz.ntmps131
  go_wp2
  refine bodyPost_ret (v := .agg #[.int .i64 (a - c), .int .i64 (b - d)]) (by simp only [results, Tryz.results131]; go_simp) rfl ?_
  exact ⟨rfl, by exact bel_⟩
theorem minus0_any (c d : Int) (w : World) (h3 : -1000000 ≤ c ∧ c ≤ 1000000) (h4 : -1000000 ≤ d ∧ d ≤ 1000000) :
    Calls Tryz.prog 131 #[.agg #[.int .i64 0, .int .i64 0], .agg #[.int .i64 c, .int .i64 d]] w fun e w' => e = .returned (.agg #[.int .i64 (-c), .int .i64 (-d)]) ∧ Below w.heap.size w w' := by
  refine (minus_any 0 0 c d w (by omega) (by omega) h3 h4).mono ?_
  rintro e w' ⟨rfl, hb⟩
  exact ⟨by rw [Int.zero_sub, Int.zero_sub], hb⟩
theorem ownsRow_baseU {w : World} {base base' : Nat} {e : TypeId} {size : Nat} {v : Value} {n : Nat} {xs : List Value} (h : w.ownsRow base e size v n xs) (hb : base' ≤ base) : w.ownsRow base' e size v n xs :=
  ⟨h.1, h.2.imp id (fun ⟨g, cap, cur, h1, h2, h3⟩ => ⟨g, cap, cur, h1, Nat.le_trans hb h2, h3⟩)⟩
/-- the result is an assembly of the call's own -/
def OwnAsm (w : World) (Z : List Pl) (e : Ending) (w' : World) : Prop :=
  ∃ B c', e = .returned (.agg #[.slice B Z.length c']) ∧ w'.ownsRow w.heap.size 127 3 (.slice B Z.length c') Z.length (plCells Z) ∧ Below w.heap.size w w'
set_option maxRecDepth 100000 in
set_option maxHeartbeats 1000000 in
theorem assemblyOf_any (A : Option Addr) (n c : Nat) (L : List Pl) (w : World) (h : RdSl 3 RPl w A n L) (hn : n ≤ 100000) (h0 : 0 < n) (hap : L.Pairwise apart) :
    Calls Tryz.prog 122 #[.slice A n c] w (OwnAsm w (sortPl L)) := by
  have hlH := Lib.hid h.len
  have hH := Lib.hid h
  have hapH := Lib.hid hap
  clear h hap
  go_enter Tryz.func122, Tryz.ntmps122
  go_wp2_with fail
  refine (CloneP_any A n c L _ (hH.out.below RPl.stable (by exact bel_)) hn).mono ?_
  rintro e w1 ⟨v, rfl, hown, hb1⟩
  rw [hlH.out] at hown
  rcases hown.2 with ⟨_, h00⟩ | ⟨g, cap, cur, rfl, hbg, hh, _⟩
  · omega
  have hgw : g < w1.heap.size := (Array.getElem?_eq_some_iff.1 hh).1
  have hbg2 : w.heap.size + 1 ≤ g := by simpa using hbg
  have r0 : w1.cell? ⟨w.heap.size, 0, none⟩ = some (.slice none 0 0) := (hb1.cell (p := ⟨w.heap.size, 0, none⟩) (by simp)).trans (by go_simp)
  have rf : w1.frozen? ⟨w.heap.size, 0, none⟩ = false := (hb1.frozen (p := ⟨w.heap.size, 0, none⟩) (by simp)).trans (by go_simp)
  have hs1 : w.heap.size + 1 ≤ w1.heap.size := by have := hb1.size; simpa using this
  have hbw1 := Lib.hid (show Below w.heap.size w w1 by exact bel_)
  have hownH := Lib.hid hown
  clear hown hb1 hbg hh
  go_wp2_with fail
  have hsrt := SortFuncPl_any L hapH.out (w.heap.size + 1) g cap w1 (by rw [hlH.out]; simpa using hownH.out) (by rw [hlH.out]; omega)
  rw [hlH.out] at hsrt
  refine hsrt.mono ?_
  rintro e w2 ⟨rfl, hown2, hg2⟩
  have hX : Below (w.heap.size + 1) w1 w2 := (Below.refl (w.heap.size + 1) w1).grown hg2 hs1 (fun b e => by injection e with e; omega)
  replace r0 := (hX.cell (p := ⟨w.heap.size, 0, none⟩) (by simp)).trans r0
  replace rf := (hX.frozen (p := ⟨w.heap.size, 0, none⟩) (by simp)).trans rf
  have hs2 : w.heap.size < w2.heap.size := by have := hX.size; omega
  have hown2H := Lib.hid hown2
  have hbw2 := Lib.hid (hbw1.out.trans (hX.mono (by omega)))
  clear hown2 hg2 hsrt hX
  go_wp2
  refine bodyPost_ret (v := .agg #[.slice (some ⟨g, 0, none⟩) n cap]) (by simp only [results, Tryz.results122]; go_simp) rfl ?_
  have hsl : (sortPl L).length = n := by rw [sortPl_len]; exact hlH.out
  refine ⟨some ⟨g, 0, none⟩, cap, by rw [hsl], ?_, hbw2.out.setCell (p := ⟨w.heap.size, 0, none⟩) (by simp) _⟩
  rw [hsl]
  exact ownsRow_baseU (ownsRow_setCell_below hown2H.out (by simp) _) (by omega)
/-- an assembly and a sign -/
def OwnAsmB (w : World) (Z : List Pl) (v : Bool) (e : Ending) (w' : World) : Prop :=
  ∃ B c', e = .returned (.tuple #[.agg #[.slice B Z.length c'], .bool v]) ∧ w'.ownsRow w.heap.size 127 3 (.slice B Z.length c') Z.length (plCells Z) ∧ Below w.heap.size w w'
set_option maxRecDepth 100000 in
set_option maxHeartbeats 4000000 in
theorem joined_any (A C : Option Addr) (n ca m cb : Nat) (gs : List Gl) (ts : List Ti) (xs ms : List Pl) (w : World) (hA : RdSl 3 RPl w A n xs) (hC : RdSl 3 RPl w C m ms) (h2 : Two gs ts xs ms) (hml : m ≤ 500) (h0 : 0 < m) :
    Calls Tryz.prog 77 #[.agg #[.slice A n ca], .agg #[.slice C m cb]] w (OwnAsmB w (sortPl (xs ++ ms)) true) := by
  obtain ⟨i2, hi2, hz02, hz12, hz22⟩ := info_parts infoPl
  have hlA := Lib.hid hA.len
  have hlC := Lib.hid hC.len
  have hn5 : n ≤ 500 := by have := h2.V.len; rw [hA.len] at this; exact this
  have hVH := Lib.hid h2.V
  have hfr := Lib.hid h2.fr
  have hap := Lib.hid h2.apart
  have hAH := Lib.hid hA
  have hCH := Lib.hid hC
  clear hA hC h2
  go_enter Tryz.func77, Tryz.ntmps77
  go_wp2_with fail
  refine (CloneP_any A n ca xs _ (hAH.out.below RPl.stable (by exact bel_)) (by omega)).mono ?_
  rintro e w1 ⟨v1, rfl, hown, hb1⟩
  rw [hlA.out] at hown
  obtain ⟨A3, c3, rfl⟩ := ownsRow_form hown
  have hown0 := Lib.hid (show w1.ownsRow (w.heap.size + 3) 127 3 (.slice A3 n c3) n (plCells xs) by simpa using hown)
  have hs1 : w.heap.size + 3 ≤ w1.heap.size := by have := hb1.size; simpa using this
  have hbw1 := Lib.hid (show Below w.heap.size w w1 by exact bel_)
  have ka : w1.cell? ⟨w.heap.size, 0, none⟩ = some (.slice A n ca) := (hb1.cell (p := ⟨w.heap.size, 0, none⟩) (by simp; omega)).trans (by go_simp)
  have kb : w1.cell? ⟨w.heap.size + 1, 0, none⟩ = some (.slice C m cb) := (hb1.cell (p := ⟨w.heap.size + 1, 0, none⟩) (by simp)).trans (by go_simp)
  have r0 : w1.cell? ⟨w.heap.size + 1 + 1, 0, none⟩ = some (.slice none 0 0) := (hb1.cell (p := ⟨w.heap.size + 1 + 1, 0, none⟩) (by simp)).trans (by go_simp)
  have rf : w1.frozen? ⟨w.heap.size + 1 + 1, 0, none⟩ = false := (hb1.frozen (p := ⟨w.heap.size + 1 + 1, 0, none⟩) (by simp)).trans (by go_simp)
  have l0 : w.heap.size < w1.heap.size := by omega
  have l1 : w.heap.size + 1 < w1.heap.size := by omega
  have l2 : w.heap.size + 1 + 1 < w1.heap.size := by omega
  clear hown hb1
  go_wp2
  go_loopg [16, 6] m (fun g x y wr => ∃ (k : Nat) (A4 : Option Addr) (c4 : Nat), k + g = m ∧ x = .int .i64 (k : Int) ∧ y = .slice A4 (n + k) c4 ∧ Hid (wr.ownsRow (w.heap.size + 3) 127 3 (.slice A4 (n + k) c4) (n + k) (plCells (xs ++ ms.take k))) ∧ Hid (Below w.heap.size w wr) ∧ w.heap.size + 3 ≤ wr.heap.size ∧ wr.cell? ⟨w.heap.size, 0, none⟩ = some (.slice A n ca) ∧ wr.cell? ⟨w.heap.size + 1 + 1, 0, none⟩ = some (.slice none 0 0) ∧ wr.frozen? ⟨w.heap.size + 1 + 1, 0, none⟩ = false)
  case atStart => exact ⟨0, A3, c3, by omega, rfl, rfl, Lib.hid (by simpa using hown0.out), hbw1, hs1, ka, r0, rf⟩
  case round =>
    clear hown0 hbw1 hs1 ka kb r0 rf l0 l1 l2
    obtain ⟨k, A4, c4, hk, rfl, rfl, hO, hbw, hs1, ka, r0, rf⟩ := hrel
    have l0 : w.heap.size < wr.heap.size := by omega
    have l2 : w.heap.size + 1 + 1 < wr.heap.size := by omega
    by_cases hkm : k < m
    · obtain ⟨e, he⟩ : ∃ e, ms[k]? = some e := ⟨_, List.getElem?_eq_getElem (by have := hlC.out; omega)⟩
      obtain ⟨bB, oB, rfl, hbB, hcB⟩ := (hCH.out.below RPl.stable hbw.out).ptr (by omega)
      obtain ⟨e0, e1, e2⟩ := hcB k e he
      have hat : atI xs e.x e.y = -1 := by
        have hf := hfr.out k (lt_of_get he)
        rw [freeAt_eq he, decide_eq_true_eq] at hf
        rcases atI_cases hVH.out e.x e.y with ⟨_, h⟩ | ⟨i, t2, d, hp, _, _, _, _⟩
        · exact h
        · omega
      have hatH := Lib.hid hat
      have htk : ms.take (k + 1) = ms.take k ++ [e] := by
        obtain ⟨hi, rfl⟩ := List.getElem?_eq_some_iff.1 he
        exact List.take_succ_eq_append_getElem hi
      have htkH := Lib.hid htk
      clear hcB hat he htk
      go_wp2_with fail
      refine (at_at (hAH.out.below RPl.stable (hbw.out.trans (Below.mono (show Below wr.heap.size wr _ by exact bel_) hbw.out.size))) hVH.out hatH.out).mono ?_
      rintro e' w2 ⟨rfl, hb2⟩
      have d0 : w2.cell? ⟨wr.heap.size, 0, none⟩ = some (.int .i64 e.x) := (hb2.cell (p := ⟨wr.heap.size, 0, none⟩) (by simp)).trans (by go_simp)
      have d1 : w2.cell? ⟨wr.heap.size, 1, none⟩ = some (.int .i64 e.y) := (hb2.cell (p := ⟨wr.heap.size, 1, none⟩) (by simp)).trans (by go_simp)
      have d2 : w2.cell? ⟨wr.heap.size, 2, none⟩ = some (.int .i64 e.t) := (hb2.cell (p := ⟨wr.heap.size, 2, none⟩) (by simp)).trans (by go_simp)
      have hB2 : Below wr.heap.size wr w2 := by exact bel_
      have s2 := hB2.size
      have s3 : wr.heap.size < w2.heap.size := Nat.lt_of_lt_of_le (by simp) hb2.size
      replace ka := (hB2.cell (p := ⟨w.heap.size, 0, none⟩) l0).trans ka
      replace r0 := (hB2.cell (p := ⟨w.heap.size + 1 + 1, 0, none⟩) l2).trans r0
      replace rf := (hB2.frozen (p := ⟨w.heap.size + 1 + 1, 0, none⟩) l2).trans rf
      have hO2 := Lib.hid (ownsRow_below hO.out hB2)
      have hbw2 := Lib.hid (hbw.out.trans (Below.mono hB2 hbw.out.size))
      clear hb2 hB2 e0 e1 e2 hO hbw
      go_wp2_with (at_builtin; refine wpList_append_own _ rfl _ _ 33 rfl (w.heap.size + 3) 127 i2 (.agg #[.int .i64 0, .int .i64 0, .int .i64 0]) 3 24 Tryz.underlying33 hi2 hz02 hz12 hz22 rfl (by decide) _ _ _ rfl (hO2.out.alloc _) ⟨w2.heap.size, 0, none⟩ 1 1 [.int .i64 e.x, .int .i64 e.y, .int .i64 e.t] rfl rfl (cell_three_new _ _ _ _ _) (fun x hx => by simp at hx; rcases hx with rfl | rfl | rfl <;> rfl) (by unfold maxLen; omega) (by omega) (by simp; omega) ?_; intro v' w3 hown' hgrow _; obtain ⟨g', cap', rfl⟩ := ownsRow_succ hown'; have hX : Below (w.heap.size + 3) w2 w3 := ((Below.refl (w.heap.size + 3) w2).alloc (by omega) _).grown hgrow (by simp; omega) (fun b' hb' => (hO2.out.lt b' hb').1); replace ka := (hX.cell (p := ⟨w.heap.size, 0, none⟩) (by simp)).trans ka; replace r0 := (hX.cell (p := ⟨w.heap.size + 1 + 1, 0, none⟩) (by simp)).trans r0; replace rf := (hX.frozen (p := ⟨w.heap.size + 1 + 1, 0, none⟩) (by simp)).trans rf; have hown3 := Lib.hid hown'; have hbw3 := Lib.hid (hbw2.out.trans (hX.mono (by omega))); have s4 := hX.size; clear hown' hgrow hX)
      go_roundg (m - (k + 1))
      case measure => omega
      case rel => exact ⟨k + 1, _, _, by omega, by go_num, rfl, Lib.hid (by
          have := hown3.out
          rw [htkH.out, ← List.append_assoc, plCells_snoc]
          exact this), hbw3, by omega, ka, r0, rf⟩
    · obtain rfl : k = m := by omega
      have hLL : (xs ++ ms).length = n + k := by rw [List.length_append, hlA.out, hlC.out]
      have hO1 := hO.out
      rw [List.take_of_length_le (by have := hlC.out; omega), ← hLL] at hO1
      obtain ⟨A5, c5, hv, hrd⟩ := rdP_of_row hO1
      injection hv with h1 h2 h3
      subst h1
      rw [hLL] at hrd
      have hrdH := Lib.hid hrd
      have hsz : (sortPl (xs ++ ms)).length = n + k := by rw [sortPl_len, hLL]
      have hszH := Lib.hid hsz
      clear hO1 hrd hLL hsz
      go_wp2_with fail
      refine (assemblyOf_any _ _ _ (xs ++ ms) _ (hrdH.out.below RPl.stable (by exact bel_)) (by omega) (by omega) hap.out).mono ?_
      rintro e w2 ⟨B, c', rfl, hown2, hb2⟩
      rw [hszH.out] at hown2
      have hB2 : Below wr.heap.size wr w2 := by exact bel_
      have s2 := hB2.size
      replace r0 := (hB2.cell (p := ⟨w.heap.size + 1 + 1, 0, none⟩) l2).trans r0
      replace rf := (hB2.frozen (p := ⟨w.heap.size + 1 + 1, 0, none⟩) l2).trans rf
      have l2' : w.heap.size + 1 + 1 < w2.heap.size := by omega
      have hown2H := Lib.hid (ownsRow_baseU hown2 (show w.heap.size + 3 ≤ wr.heap.size by omega))
      have hbw2 := Lib.hid (hbw.out.trans (Below.mono hB2 hbw.out.size))
      clear hb2 hB2 hown2
      rw [hszH.out]
      go_wp2
      refine bodyPost_ret (v := .tuple #[.agg #[.slice B (n + k) c'], .bool true]) (by simp only [results, Tryz.results77]; go_simp) rfl ?_
      refine ⟨B, c', by rw [hszH.out], ?_, hbw2.out.setCell (p := ⟨w.heap.size + 1 + 1, 0, none⟩) (by simp; omega) _⟩
      rw [hszH.out]
      exact ownsRow_baseU (ownsRow_setCell_below hown2H.out (by simp) _) (by omega)
end Go.Proofs.YtedihnokcpnikaaGreat
/- Walks: an assembly in normal form; two assemblies put together. -/



namespace Go.Proofs.YtedihnokcpnikaaGreat
open Go.RowKit Go.Shelf
attribute [local go_sem] BelowBy.cell BelowBy.cell_drew stillUpon givesUpon BelowBy.cell_drew2 BelowBy.cell_drew3

set_option maxRecDepth 100000 in
set_option maxHeartbeats 2000000 in
theorem normalized_any {gs : List Gl} {ts : List Ti} (A : Option Addr) (n c : Nat) (zs : List Pl) (e : Pl) (w : World) (h : RdSl 3 RPl w A n zs) (hV : Valid gs ts zs) (he : zs[0]? = some e) :
    Calls Tryz.prog 125 #[.agg #[.slice A n c]] w (OwnAsm w (mvL (-e.x) (-e.y) zs)) := by
  have hl := h.len
  have hlt := lt_of_get he
  obtain ⟨ex, ey⟩ := hV.pt 0 e he
  have hn5 := hV.len
  have hpt := Lib.hid hV.pt
  have hlH := Lib.hid hl
  obtain ⟨b, o, rfl, hb, hc⟩ := h.ptr (by omega)
  obtain ⟨c0, c1, c2⟩ := hc 0 e he
  simp only [Nat.zero_mul, Nat.add_zero] at c0 c1 c2
  have hH := Lib.hid h
  have heH := Lib.hid he
  have hn0 : 0 < n := by omega
  have hnI : (0 : Int) < (n : Int) := by omega
  have hn55 : n ≤ 500 := by omega
  clear h hV he hl hc hn5 hlt
  go_enter Tryz.func125, Tryz.ntmps125
  go_wp2
  have hbb : b < w.heap.size + 1 + 1 := by omega
  refine wp_region_ord [(0, .q), (1, .q), (2, .q), (3, .q), (4, .q), (5, .q), (6, .q), (7, .g), (8, .g), (9, .b)] (by kernel_rfl) (by kernel_rfl) ?_
  simp only [pick, List.filterMap_cons, List.filterMap_nil, List.getElem?_toArray, List.getElem?_cons_zero, List.getElem?_cons_succ, Option.map_some]
  repeat (first
    | ((with_reducible refine wpD_p (fun K hK => ?_)); go_simp; refine hK _ ?_; clear hK K)
    | ((with_reducible refine wpD_q (fun K hK => ?_)); go_simp; (first | refine hK _ ?_ | (go_bits; refine hK _ ?_) | (go_bits; go_simp; refine hK _ ?_)); clear hK K)
    | ((with_reducible refine wpD_g (fun K hK => ?_)); go_simp; refine hK _ _ ?_; clear hK K)
    | ((with_reducible refine wpD_g (fun K hK => ?_)); go_simp; refine ⟨Grew.of_alloc _, hK _ _ ?_⟩; clear hK K)
    | ((with_reducible refine wpD_g (fun K hK => ?_)); go_simp; go_at_call 131; refine (minus0_any e.x e.y _ (by omega) (by omega)).mono ?_; rintro e w2 ⟨rfl, hb2⟩; refine ⟨_, rfl, hb2, hK _ _ ?_⟩; clear hK K; obtain ⟨chb2, fhb2, shb2, thb2⟩ := bcell hb2))
  with_reducible refine wpD_g (fun K hK => ?_)
  go_simp
  refine (moved_own _ n c zs (-e.x) (-e.y) _ (hH.out.below RPl.stable (by exact bel_)) (by omega) hpt.out (by omega) (by omega)).mono ?_
  rintro e' w3 ⟨B, c', rfl, hown, hb3⟩
  refine ⟨_, rfl, hb3, hK _ _ ?_⟩
  clear hK K
  have hs2 : w.heap.size + 2 ≤ w2.heap.size := by have := hb2.size; simpa using this
  have r0 : w2.cell? ⟨w.heap.size + 1, 0, none⟩ = some (.slice none 0 0) := (hb2.cell (p := ⟨w.heap.size + 1, 0, none⟩) (by simp)).trans (by go_simp)
  have rf : w2.frozen? ⟨w.heap.size + 1, 0, none⟩ = false := (hb2.frozen (p := ⟨w.heap.size + 1, 0, none⟩) (by simp)).trans (by go_simp)
  replace r0 := (hb3.cell (p := ⟨w.heap.size + 1, 0, none⟩) (by simp; omega)).trans r0
  replace rf := (hb3.frozen (p := ⟨w.heap.size + 1, 0, none⟩) (by simp; omega)).trans rf
  have hs3 : w.heap.size + 1 < w3.heap.size := by have := hb3.size; omega
  have hownH := Lib.hid (ownsRow_baseU hown (show w.heap.size + 2 ≤ w2.heap.size by omega))
  have hbw3 := Lib.hid (show Below w.heap.size w w3 by exact bel_)
  have hml : (mvL (-e.x) (-e.y) zs).length = n := by rw [mvL_len]; exact hlH.out
  have hmlH := Lib.hid hml
  clear hown hb3 hb2 chb2 fhb2 shb2 thb2 hml
  with_reducible refine wpD_b (fun K hK => ?_)
  go_simp
  refine hK _ _ ?_
  clear hK K
  with_reducible refine wpD_nil ?_
  go_wp2
  refine bodyPost_ret (v := .agg #[.slice B n c']) (by simp only [results, Tryz.results125]; go_simp) rfl ?_
  refine ⟨B, c', by rw [hmlH.out], ?_, hbw3.out.setCell (p := ⟨w.heap.size + 1, 0, none⟩) (by simp) _⟩
  rw [hmlH.out]
  exact ownsRow_baseU (ownsRow_setCell_below hownH.out (by simp) _) (by omega)
theorem AsmRes.lift {w w' : World} {r : List Pl × Int} {base : Nat} {n : Nat} {c : Int} {bs : List Pl} {A : Option Addr} {cap : Nat} (h : (bs, c) = r) (hn : bs.length = n) (hr : w'.ownsRow base 127 3 (.slice A n cap) n (plCells bs)) (hbase : w.heap.size ≤ base) (hb : Below w.heap.size w w') : AsmRes w r (.returned (.tuple #[.agg #[.slice A n cap], .int .i64 c])) w' :=
  AsmRes.of h hn.symm (ownsRow_baseU hr hbase) hb
set_option maxRecDepth 100000 in
set_option maxHeartbeats 2000000 in
theorem Normalize_any {gs : List Gl} {ts : List Ti} (A : Option Addr) (n c : Nat) (zs : List Pl) (e : Pl) (w : World) (h : RdSl 3 RPl w A n zs) (hV : Valid gs ts zs) (he : zs[0]? = some e) :
    Calls Tryz.prog 79 #[.agg #[.slice A n c]] w (AsmRes w (normE zs)) := by
  have hl := h.len
  have hlt := lt_of_get he
  have hn5 := hV.len
  have hfm := Lib.hid (hasForm_valid hV)
  have hfm2 := Lib.hid (hasForm_mv (-e.x) (-e.y) hV)
  have hVH := Lib.hid hV
  have hH := Lib.hid h
  have heH := Lib.hid he
  have hlH := Lib.hid hl
  have hn0 : 0 < n := by omega
  have hn55 : n ≤ 500 := by omega
  have hz : ((n : Int) == 0) = false := by simp; omega
  have hnI : (0 : Int) < (n : Int) := by omega
  have hml : (mvL (-e.x) (-e.y) zs).length = n := by rw [mvL_len]; exact hl
  have hmlH := Lib.hid hml
  clear h hV he hl hlt hml
  cases hm : mvOk (-e.x) (-e.y) zs
  all_goals
    have hf2 := Lib.hid (hfm2.out.trans hm)
    have hmH := Lib.hid hm
    clear hm
    go_enter Tryz.func79, Tryz.ntmps79
    go_wp2_with fail
    refine (hasForm_at (hH.out.below RPl.stable (by exact bel_)) (by omega) hfm.out).mono ?_
    rintro e' w1 ⟨rfl, hb1⟩
    obtain ⟨chb1, fhb1, shb1, thb1⟩ := bcell hb1
    have s1 := shb1 w.heap.size (by go_simp)
    have s1' := shb1 (w.heap.size + 1) (by go_simp)
    go_wp2_with fail
    refine (normalized_any A n c zs e _ (hH.out.below RPl.stable (by exact bel_)) hVH.out heH.out).mono ?_
    rintro e' w2 ⟨B, c', rfl, hown, hb2⟩
    rw [hmlH.out] at hown ⊢
    have hownH := Lib.hid (ownsRow_baseU hown (show w.heap.size + 2 ≤ _ by have := hb1.size; simp at this ⊢; omega))
    have hrd : RdSl 3 RPl w2 B n (mvL (-e.x) (-e.y) zs) := rdPl hown hmlH.out.symm
    have hrdH := Lib.hid hrd
    obtain ⟨chb2, fhb2, shb2, thb2⟩ := bcell hb2
    have s2 := shb2 w.heap.size (by go_simp)
    have s2' := shb2 (w.heap.size + 1) (by go_simp)
    clear hown hrd
    go_wp2_with fail
    refine (hasForm_at (hrdH.out.below RPl.stable (by exact bel_)) (by omega) hf2.out).mono ?_
    rintro e' w3 ⟨rfl, hb3⟩
  · have hb30 := Lib.hid (show Below w.heap.size w w3 by exact bel_)
    obtain ⟨chb3, fhb3, shb3, thb3⟩ := bcell hb3
    have s3 := shb3 (w.heap.size + 1) (by go_simp)
    go_wp2
    refine bodyPost_ret (v := .tuple #[.agg #[.slice none 0 0], .int .i64 2]) (by simp only [results, Tryz.results79]; go_simp) rfl ?_
    exact AsmRes.lift (base := w.heap.size) (normE_no heH.out hmH.out) rfl (World.ownsRow_nil _ _ _ _) (Nat.le_refl _) (hb30.out.setCell (p := ⟨w.heap.size + 1, 0, none⟩) (by simp) _)
  · have hb30 := Lib.hid (show Below w.heap.size w w3 by exact bel_)
    obtain ⟨chb3, fhb3, shb3, thb3⟩ := bcell hb3
    have s3 := shb3 (w.heap.size + 1) (by go_simp)
    have hl2 : w2.heap.size < w3.heap.size := Nat.lt_of_lt_of_le (by simp) hb3.size
    have q0 : w3.cell? ⟨w2.heap.size, 0, none⟩ = some (.slice B n c') := (hb3.cell (p := ⟨w2.heap.size, 0, none⟩) (by simp)).trans (by go_simp)
    have hB3 : Below w2.heap.size w2 w3 := by exact bel_
    have hown3 := Lib.hid (ownsRow_below hownH.out hB3)
    clear hb3 hB3
    go_wp2
    refine bodyPost_ret (v := .tuple #[.agg #[.slice B n c'], .int .i64 0]) (by simp only [results, Tryz.results79]; go_simp) rfl ?_
    exact AsmRes.lift (base := w.heap.size + 2) (normE_ok heH.out hmH.out) hmlH.out (ownsRow_setCell_below hown3.out (by simp) _) (by omega) (hb30.out.setCell (p := ⟨w.heap.size + 1, 0, none⟩) (by simp) _)
end Go.Proofs.YtedihnokcpnikaaGreat
/- Walks: Combine, the program. -/


namespace Go.Proofs.YtedihnokcpnikaaGreat
open Go.RowKit Go.Shelf
attribute [local go_sem] BelowBy.cell BelowBy.cell_drew stillUpon givesUpon BelowBy.cell_drew2 BelowBy.cell_drew3

theorem joinStrength_at {G T A C : Option Addr} {n cg m ct q ca nb cb : Nat} {gs : List Gl} {ts : List Ti} {xs ys : List Pl} {dx dy s k : Int} {w : World} (hS : SA w G n T m A q gs ts xs) (hC : RdSl 3 RPl w C nb ys) (hV : Valid gs ts xs) (hVb : Valid gs ts ys) (h : joinM gs ts xs ys dx dy = (s, k)) :
    Calls Tryz.prog 76 #[.agg #[.slice G n cg, .slice T m ct], .agg #[.slice A q ca], .agg #[.slice C nb cb], .agg #[.int .i64 dx, .int .i64 dy]] w fun e w' => e = .returned (.tuple #[.int .i64 s, .int .i64 k]) ∧ Below w.heap.size w w' := by
  have := joinStrength_any G T A C n cg m ct q ca nb cb gs ts xs ys dx dy w hS hC hV hVb
  rw [h] at this
  exact this
theorem sumJ_top {gs : List Gl} {ts : List Ti} {xs ys : List Pl} {dx dy s : Int} (hV : Valid gs ts xs) (hV2 : Valid gs ts ys) (h : joinM gs ts xs ys dx dy = (s, 0)) : 0 ≤ s ∧ s ≤ 8000 := by
  obtain ⟨_, _, _, _, rfl⟩ := joinM_ok hV hV2 h
  have h1 := sumJ_bound hV (mvL dx dy ys) (mvL dx dy ys).length
  have h2 := mvL_len dx dy ys
  have h3 := hV2.len
  omega
set_option maxRecDepth 100000 in
set_option maxHeartbeats 4000000 in
theorem combine_any (G T A C : Option Addr) (n cg m ct q ca nb cb : Nat) (gs : List Gl) (ts : List Ti) (xs ys : List Pl) (t dx dy : Int) (w : World) (hS : SA w G n T m A q gs ts xs) (hC : RdSl 3 RPl w C nb ys) (hV : Valid gs ts xs) (hVb : Valid gs ts ys) (ht : 1 ≤ t) :
    Calls Tryz.prog 40 #[.agg #[.slice G n cg, .slice T m ct, .int .i64 t], .agg #[.slice A q ca], .agg #[.slice C nb cb], .agg #[.int .i64 dx, .int .i64 dy]] w (AsmRes w (combE gs ts xs ys t dx dy)) := by
  have hlb := hC.len
  have hla := hS.A.len
  have hl5 := hV.len
  have hlb5 := hVb.len
  obtain ⟨s, k, hj⟩ : ∃ s k, joinM gs ts xs ys dx dy = (s, k) := ⟨_, _, rfl⟩
  have hSH := Lib.hid hS
  have hCH := Lib.hid hC
  have hVH := Lib.hid hV
  have hVbH := Lib.hid hVb
  have hjH := Lib.hid hj
  by_cases hk : k = 0
  · subst hk
    by_cases hst : s < t
    · have hrH := Lib.hid (combE_weak hj hst)
      clear hS hC hV hVb hj
      go_enter Tryz.func40, Tryz.ntmps40
      go_wp2_with fail
      refine (joinStrength_at (hSH.out.below (by exact bel_)) (hCH.out.below RPl.stable (by exact bel_)) hVH.out hVbH.out hjH.out).mono ?_
      rintro e w1 ⟨rfl, hb1⟩
      have hb10 := Lib.hid (show Below w.heap.size w w1 by exact bel_)
      obtain ⟨chb1, fhb1, shb1, thb1⟩ := bcell hb1
      have s1 := shb1 w.heap.size (by go_simp)
      have s4 := shb1 (w.heap.size + 1 + 1 + 1 + 1) (by go_simp)
      go_wp2
      refine bodyPost_ret (v := .tuple #[.agg #[.slice none 0 0], .int .i64 5]) (by simp only [results, Tryz.results40]; go_simp) rfl ?_
      exact AsmRes.lift (base := w.heap.size) hrH.out rfl (World.ownsRow_nil _ _ _ _) (Nat.le_refl _) (hb10.out.setCell (p := ⟨w.heap.size + 1 + 1 + 1 + 1, 0, none⟩) (by simp; omega) _)
    · obtain ⟨hx, hy, hmv, h2, hsum⟩ := joinM_ok hV hVb hj
      have hxI := inB_true.1 hx
      have hyI := inB_true.1 hy
      obtain ⟨e0, he0⟩ := join_first (xs := xs) ht hst hsum
      have hml : (mvL dx dy ys).length = nb := by rw [mvL_len, hlb]
      have hb0 : 0 < nb := by
        rcases Nat.eq_zero_or_pos nb with h0 | h0
        · rw [List.eq_nil_of_length_eq_zero (l := mvL dx dy ys) (by omega)] at hsum
          simp [sumJ] at hsum
          omega
        · exact h0
      obtain ⟨ms, hms⟩ : ∃ ms, mvL dx dy ys = ms := ⟨_, rfl⟩
      rw [hms] at h2 he0 hml hsum
      have h2H := Lib.hid h2
      have hmsH := Lib.hid hms
      have he0H := Lib.hid he0
      have hzl : (sortPl (xs ++ ms)).length = q + nb := by rw [sortPl_len, List.length_append, hla, hml]
      have hzlH := Lib.hid hzl
      have hmlH := Lib.hid hml
      have hptb := Lib.hid hVb.pt
      have hqb : q ≤ 500 := by omega
      have hnbb : nb ≤ 500 := by omega
      have hfu : Hid (500 < q + nb → (([], 4) : List Pl × Int) = combE gs ts xs ys t dx dy) := Lib.hid (fun h => combE_full hj hst (by omega))
      have hnm : Hid (¬ 500 < q + nb → normE (sortPl (xs ++ ms)) = combE gs ts xs ys t dx dy) := Lib.hid (fun h => by rw [← hms]; exact combE_norm hj hst (by omega))
      have hVz : Hid (¬ 500 < q + nb → Valid gs ts (sortPl (xs ++ ms))) := Lib.hid (fun h => h2.valid (by omega))
      clear hS hC hV hVb hj h2 hms he0 hsum hx hy hmv hzl hml hlb hla
      go_enter Tryz.func40, Tryz.ntmps40
      go_wp2_with fail
      refine (joinStrength_at (hSH.out.below (by exact bel_)) (hCH.out.below RPl.stable (by exact bel_)) hVH.out hVbH.out hjH.out).mono ?_
      rintro e w1 ⟨rfl, hb1⟩
      have hb10 := Lib.hid (show Below w.heap.size w w1 by exact bel_)
      have y0 : w1.cell? ⟨w.heap.size, 2, none⟩ = some (.int .i64 t) := (hb1.cell (p := ⟨w.heap.size, 2, none⟩) (by simp; try omega)).trans (by go_simp)
      have y1 : w1.cell? ⟨w.heap.size + 1, 0, none⟩ = some (.slice A q ca) := (hb1.cell (p := ⟨w.heap.size + 1, 0, none⟩) (by simp; try omega)).trans (by go_simp)
      have y2 : w1.cell? ⟨w.heap.size + 1 + 1, 0, none⟩ = some (.slice C nb cb) := (hb1.cell (p := ⟨w.heap.size + 1 + 1, 0, none⟩) (by simp; try omega)).trans (by go_simp)
      have y3 : w1.cell? ⟨w.heap.size + 1 + 1 + 1, 0, none⟩ = some (.int .i64 dx) := (hb1.cell (p := ⟨w.heap.size + 1 + 1 + 1, 0, none⟩) (by simp)).trans (by go_simp)
      have y3' : w1.cell? ⟨w.heap.size + 1 + 1 + 1, 1, none⟩ = some (.int .i64 dy) := (hb1.cell (p := ⟨w.heap.size + 1 + 1 + 1, 1, none⟩) (by simp)).trans (by go_simp)
      have y4 : w1.cell? ⟨w.heap.size + 1 + 1 + 1 + 1, 0, none⟩ = some (.slice none 0 0) := (hb1.cell (p := ⟨w.heap.size + 1 + 1 + 1 + 1, 0, none⟩) (by simp)).trans (by go_simp)
      have k4 : w1.frozen? ⟨w.heap.size + 1 + 1 + 1 + 1, 0, none⟩ = false := (hb1.frozen (p := ⟨w.heap.size + 1 + 1 + 1 + 1, 0, none⟩) (by simp)).trans (by go_simp)
      have ls : w.heap.size + 5 ≤ w1.heap.size := by have := hb1.size; simp at this; omega
      have l0 : w.heap.size < w1.heap.size := by omega
      have l1 : w.heap.size + 1 < w1.heap.size := by omega
      have l2 : w.heap.size + 1 + 1 < w1.heap.size := by omega
      have l3 : w.heap.size + 1 + 1 + 1 < w1.heap.size := by omega
      have l4 : w.heap.size + 1 + 1 + 1 + 1 < w1.heap.size := by omega
      clear hb1
      go_wp2_with fail
      refine wp_region_fl 8 [(0, .q), (1, .q), (2, .q), (3, .g), (4, .g), (5, .q), (6, .q), (7, .p)] [(9, .b), (10, .q)] _ (Obj.cells #[.slice none 0 0] 35) (by kernel_rfl) (by kernel_rfl) (by kernel_rfl) (by kernel_rfl) rfl (fun a w => ⟨rfl, by unfold flPtr; go_simp⟩) ?_
      simp only [pick, List.filterMap_cons, List.filterMap_nil, List.getElem?_toArray, List.getElem?_cons_zero, List.getElem?_cons_succ, Option.map_some]
      repeat (first | ((with_reducible refine wpL_p (fun K hK => ?_)); go_simp; refine hK _ ?_; clear hK K) | ((with_reducible refine wpL_q (fun K hK => ?_)); go_simp; (first | refine hK _ ?_ | (go_bits; refine hK _ ?_) | (go_bits; go_simp; refine hK _ ?_)); clear hK K))
      with_reducible refine wpL_g rfl (fun K hK st4 u4 mv4 => ?_)
      have hu4 := mv4.below
      have fu4 := (FlAt.none (Obj.cells #[.slice none 0 0] 35) (World.drew w1)).mv mv4
      have j4 : Below w1.heap.size w1 u4 := (Below.refl _ w1).drew.trans (hu4.mono (Nat.le_refl _))
      clear mv4
      go_simp
      refine (moved_any C nb cb ys dx dy _ ((hCH.out.below RPl.stable hb10.out).below RPl.stable j4) (by omega) hptb.out hxI hyI).mono ?_
      rintro e w2 ⟨B, c2, rfl, hrd2, hb2⟩
      refine ⟨_, rfl, hb2, hK _ _ _ ?_⟩
      clear hK K
      rw [hmsH.out] at hrd2
      have hrd2H := Lib.hid hrd2
      have fd4 := fu4.below hb2
      have j5 : Below w1.heap.size w1 w2 := j4.trans (hb2.mono j4.size)
      repeat (first | ((with_reducible refine wpL_p (fun K hK => ?_)); go_simp; refine hK _ ?_; clear hK K) | ((with_reducible refine wpL_q (fun K hK => ?_)); go_simp; (first | refine hK _ ?_ | (go_bits; refine hK _ ?_) | (go_bits; go_simp; refine hK _ ?_)); clear hK K))
      with_reducible refine wpL_g rfl (fun K hK st5 u5 mv5 => ?_)
      have hu5 := mv5.below
      have fu5 := fd4.mv mv5
      clear mv5
      have j6 : Below w1.heap.size w1 u5 := j5.trans (hu5.mono j5.size)
      go_simp
      refine (joined_any A B q ca nb c2 gs ts xs ms _ ((hSH.out.A.below RPl.stable hb10.out).below RPl.stable j6) (hrd2H.out.below RPl.stable hu5) h2H.out hnbb hb0).mono ?_
      rintro e w3 ⟨D, c3, rfl, hown3, hb3⟩
      refine ⟨_, rfl, hb3, hK _ _ _ ?_⟩
      clear hK K
      rw [hzlH.out] at hown3
      rw [hzlH.out]
      have hown30 := ownsRow_baseU hown3 (show w.heap.size ≤ u5.heap.size by have := j6.size; omega)
      have fd5 := fu5.below hb3
      have j7 : Below w1.heap.size w1 w3 := j6.trans (hb3.mono j6.size)
      repeat (first | ((with_reducible refine wpL_p (fun K hK => ?_)); go_simp; refine hK _ ?_; clear hK K) | ((with_reducible refine wpL_q (fun K hK => ?_)); go_simp; (first | refine hK _ ?_ | (go_bits; refine hK _ ?_) | (go_bits; go_simp; refine hK _ ?_)); clear hK K))
      with_reducible refine wpL_nil (fun b12 w5 mvF => ?_)
      have huF := mvF.below
      obtain ⟨fl9, fb9⟩ := (fd5.mv mvF).2 _ rfl
      have j8 : Below w1.heap.size w1 w5 := j7.trans (huF.mono j7.size)
      clear mvF
      simp only [World.size_drew] at fl9
      have rF : w5.rowIs b12 35 1 (fun i => (#[.slice none 0 0] : Array Value).getD i undef) := ⟨_, fb9, rfl, fun i hi => by simp [hi]⟩
      have f0 : w5.cell? ⟨b12, 0, none⟩ = some (.slice none 0 0) := rF.cell (i := 0) (by decide)
      have f1 : w5.frozen? ⟨b12, 0, none⟩ = false := rF.frozen 0
      have lF : b12 < w5.heap.size := (Array.getElem?_eq_some_iff.1 fb9).1
      have hown5 := ownsRow_below hown30 huF
      have hneF := own_ne_row hown5 rF (by decide)
      have n4 : ¬ w.heap.size + 1 + 1 + 1 + 1 = b12 := by omega
      replace y4 := (j8.cell (p := ⟨w.heap.size + 1 + 1 + 1 + 1, 0, none⟩) l4).trans y4
      replace k4 := (j8.frozen (p := ⟨w.heap.size + 1 + 1 + 1 + 1, 0, none⟩) l4).trans k4
      replace l4 : w.heap.size + 1 + 1 + 1 + 1 < w5.heap.size := by have := j8.size; omega
      have hbw5 := Lib.hid (hb10.out.trans (j8.mono hb10.out.size))
      have hown6 := Lib.hid (ownsRow_setCell_other hown5 (a := ⟨b12, 0, none⟩) hneF (.slice D (q + nb) c3))
      have gb : w.heap.size ≤ b12 := by omega
      clear fu4 fd4 hu4 huF hb2 j4 j5 j6 j7 j8 fb9 rF hown5 hown30 hown3 hneF fu5 fd5 hu5 hb3 hrd2 y0 y1 y2 y3 y3' l0 l1 l2 l3
      simp only [flPtr]
      with_reducible refine wpD_b (fun K hK => ?_)
      go_simp
      refine hK _ _ ?_
      clear hK K
      repeat (first | ((with_reducible refine wpD_p (fun K hK => ?_)); go_simp; refine hK _ ?_; clear hK K) | ((with_reducible refine wpD_q (fun K hK => ?_)); go_simp; (first | refine hK _ ?_ | (go_bits; refine hK _ ?_) | (go_bits; go_simp; refine hK _ ?_)); clear hK K))
      with_reducible refine wpD_nil ?_
      have hbw6 := Lib.hid (hbw5.out.setCell (p := ⟨b12, 0, none⟩) (by simp; omega) (.slice D (q + nb) c3))
      have z0 : (w5.setCell ⟨b12, 0, none⟩ (.slice D (q + nb) c3)).cell? ⟨b12, 0, none⟩ = some (.slice D (q + nb) c3) := by go_simp
      have z4 : (w5.setCell ⟨b12, 0, none⟩ (.slice D (q + nb) c3)).cell? ⟨w.heap.size + 1 + 1 + 1 + 1, 0, none⟩ = some (.slice none 0 0) := by go_simp
      have z5 : (w5.setCell ⟨b12, 0, none⟩ (.slice D (q + nb) c3)).frozen? ⟨w.heap.size + 1 + 1 + 1 + 1, 0, none⟩ = false := by go_simp
      have z6 : b12 < (w5.setCell ⟨b12, 0, none⟩ (.slice D (q + nb) c3)).heap.size := by simpa using lF
      have z7 : w.heap.size + 1 + 1 + 1 + 1 < (w5.setCell ⟨b12, 0, none⟩ (.slice D (q + nb) c3)).heap.size := by simpa using l4
      clear y4 k4 f0 f1 lF l4 hbw5
      generalize (w5.setCell ⟨b12, 0, none⟩ (.slice D (q + nb) c3)) = w6 at hown6 hbw6 z0 z4 z5 z6 z7 ⊢
      by_cases hbig : 500 < q + nb
      · have hbigI : (500 : Int) < (q : Int) + (nb : Int) := by omega
        have hbigI2 : (500 : Int) < ((q + nb : Nat) : Int) := by omega
        go_wp2
        refine bodyPost_ret (v := .tuple #[.agg #[.slice none 0 0], .int .i64 4]) (by simp only [results, Tryz.results40]; go_simp) rfl ?_
        exact AsmRes.lift (base := w.heap.size) (hfu.out hbig) rfl (World.ownsRow_nil _ _ _ _) (Nat.le_refl _) (hbw6.out.setCell (p := ⟨w.heap.size + 1 + 1 + 1 + 1, 0, none⟩) (by simp; omega) _)
      · have hbigI : ¬ (500 : Int) < (q : Int) + (nb : Int) := by omega
        have hbigI2 : ¬ (500 : Int) < ((q + nb : Nat) : Int) := by omega
        have hrd6 : RdSl 3 RPl w6 D (q + nb) (sortPl (xs ++ ms)) := rdPl hown6.out hzlH.out.symm
        have hrd6H := Lib.hid hrd6
        clear hrd6
        go_wp2_with fail
        refine (Normalize_any D (q + nb) c3 (sortPl (xs ++ ms)) e0 _ hrd6H.out (hVz.out hbig) he0H.out).mono ?_
        rintro e w7 ⟨E, c7, rfl, hown7, hb7⟩
        have hnmH := Lib.hid (hnm.out hbig)
        obtain ⟨r, hr⟩ : ∃ r, normE (sortPl (xs ++ ms)) = r := ⟨_, rfl⟩
        rw [hr] at hown7 hnmH ⊢
        have u4 := (hb7.cell (p := ⟨w.heap.size + 1 + 1 + 1 + 1, 0, none⟩) z7).trans z4
        have u5 := (hb7.frozen (p := ⟨w.heap.size + 1 + 1 + 1 + 1, 0, none⟩) z7).trans z5
        have u7 : w.heap.size + 1 + 1 + 1 + 1 < w7.heap.size := Nat.lt_of_lt_of_le z7 hb7.size
        have hown8 := Lib.hid (ownsRow_setCell_below hown7 (a := ⟨w.heap.size + 1 + 1 + 1 + 1, 0, none⟩) z7 (.slice E r.1.length c7))
        have hbw7 := Lib.hid (hbw6.out.trans (hb7.mono hbw6.out.size))
        have hge : w.heap.size ≤ w6.heap.size := by omega
        clear hb7 hown7 hr z0 z4 z5 z6 z7
        go_wp2
        refine bodyPost_ret (v := .tuple #[.agg #[.slice E r.1.length c7], .int .i64 r.2]) (by simp only [results, Tryz.results40]; go_simp) rfl ?_
        rw [← hnmH.out]
        exact ⟨E, c7, rfl, ownsRow_baseU hown8.out hge, hbw7.out.setCell (p := ⟨w.heap.size + 1 + 1 + 1 + 1, 0, none⟩) (by simp; omega) _⟩
  · have hrH := Lib.hid (combE_code (T := t) hj hk)
    have hk1 : (k != 0) = true := by simpa using hk
    clear hS hC hV hVb hj
    go_enter Tryz.func40, Tryz.ntmps40
    go_wp2_with fail
    refine (joinStrength_at (hSH.out.below (by exact bel_)) (hCH.out.below RPl.stable (by exact bel_)) hVH.out hVbH.out hjH.out).mono ?_
    rintro e w1 ⟨rfl, hb1⟩
    have hb10 := Lib.hid (show Below w.heap.size w w1 by exact bel_)
    obtain ⟨chb1, fhb1, shb1, thb1⟩ := bcell hb1
    have s1 := shb1 w.heap.size (by go_simp)
    have s4 := shb1 (w.heap.size + 1 + 1 + 1 + 1) (by go_simp)
    go_wp2
    refine bodyPost_ret (v := .tuple #[.agg #[.slice none 0 0], .int .i64 k]) (by simp only [results, Tryz.results40]; go_simp) rfl ?_
    exact AsmRes.lift (base := w.heap.size) hrH.out rfl (World.ownsRow_nil _ _ _ _) (Nat.le_refl _) (hb10.out.setCell (p := ⟨w.heap.size + 1 + 1 + 1 + 1, 0, none⟩) (by simp; omega) _)
end Go.Proofs.YtedihnokcpnikaaGreat
/- Walks: Combine, the program. -/

namespace Go.Proofs.YtedihnokcpnikaaGreat
open Go.RowKit Go.Shelf
attribute [local go_sem] BelowBy.cell BelowBy.cell_drew stillUpon givesUpon BelowBy.cell_drew2 BelowBy.cell_drew3

theorem validSet_of {gs : List Gl} {ts : List Ti} {xs : List Pl} (h : validAsmB gs ts xs = true) : validSetB gs ts = true := by
  unfold validAsmB at h
  simp only [Bool.and_eq_true] at h
  exact h.1
theorem codeH_two (gs : List Gl) (ts : List Ti) (xs ys : List Pl) (t : Int) : codeH gs ts [xs, ys] t = if askJ gs ts xs ys = false then 1 else if inB t 1 16 = false then 2 else 0 := by
  unfold codeH askJ
  have h2 : allB [xs, ys].length (okL gs ts [xs, ys]) = (validAsmB gs ts xs && validAsmB gs ts ys) := by
    simp [allB, okL, List.range_succ]
  rw [h2]
  cases hx : validAsmB gs ts xs
  · simp
  · rw [validSet_of hx]; simp
theorem lrow_two {w : World} {g : Nat} {A C : Option Addr} {q ca nb cb : Nat} {xs ys : List Pl} (hg : g < w.heap.size) (h0 : w.cell? ⟨g, 0, none⟩ = some (.slice A q ca)) (h1 : w.cell? ⟨g, 1, none⟩ = some (.slice C nb cb)) (hA : RdSl 3 RPl w A q xs) (hC : RdSl 3 RPl w C nb ys) (hq : q ≤ 1073741824) (hn : nb ≤ 1073741824) : LRow w g [xs, ys] := by
  refine ⟨hg, fun k l hk => ?_⟩
  rcases k with _ | _ | k
  · simp at hk; subst hk; exact ⟨A, q, ca, h0, hA, hq⟩
  · simp at hk; subst hk; exact ⟨C, nb, cb, h1, hC, hn⟩
  · simp at hk
set_option maxRecDepth 100000 in
set_option maxHeartbeats 4000000 in
theorem Combine_any (G T A C : Option Addr) (n cg m ct q ca nb cb : Nat) (gs : List Gl) (ts : List Ti) (xs ys : List Pl) (t dx dy : Int) (w : World) (hS : SA w G n T m A q gs ts xs) (hS2 : SA w G n T m C nb gs ts ys) :
    Calls Tryz.prog 12 #[.agg #[.slice G n cg, .slice T m ct], .int .i64 t, .agg #[.slice A q ca], .agg #[.slice C nb cb], .agg #[.int .i64 dx, .int .i64 dy]] w (AsmRes w (combR gs ts xs ys t dx dy)) := by
  have hq1 := hS.q
  have hq2 := hS2.q
  have hSH := Lib.hid hS
  have hS2H := Lib.hid hS2
  have hcd := codeH_two gs ts xs ys t
  clear hS hS2
  cases hk : askJ gs ts xs ys
  · rw [hk, if_pos rfl] at hcd
    have hrH := Lib.hid (show (([], 1) : List Pl × Int) = combR gs ts xs ys t dx dy by unfold combR; rw [if_pos hk])
    have hcdH := Lib.hid hcd
    clear hk hcd
    go_enter Tryz.func12, Tryz.ntmps12
    go_wp2_with fail
    refine (handsCode_any (N := 2) (Ls := [xs, ys]) (hSH.out.toTS.below (by exact bel_)) (lrow_two (g := w.heap.size + 1 + 1 + 1 + 1 + 1 + 1) (A := A) (C := C) (q := q) (ca := ca) (nb := nb) (cb := cb) (by simp) (by go_simp) (by go_simp) (hSH.out.A.below RPl.stable (by exact bel_)) (hS2H.out.A.below RPl.stable (by exact bel_)) hq1 hq2) rfl (by decide)).mono ?_
    rw [hcdH.out]
    rintro e w1 ⟨rfl, hb1⟩
    have hb10 := Lib.hid (show Below w.heap.size w w1 by exact bel_)
    obtain ⟨chb1, fhb1, shb1, thb1⟩ := bcell hb1
    have s4 := shb1 (w.heap.size + 1 + 1 + 1 + 1) (by go_simp)
    go_wp2
    refine bodyPost_ret (v := .tuple #[.agg #[.slice none 0 0], .int .i64 1]) (by simp only [results, Tryz.results12]; go_simp) rfl ?_
    exact AsmRes.lift (base := w.heap.size) hrH.out rfl (World.ownsRow_nil _ _ _ _) (Nat.le_refl _) (hb10.out.setCell (p := ⟨w.heap.size + 1 + 1 + 1 + 1, 0, none⟩) (by simp; omega) _)
  · cases hT : inB t 1 16
    · rw [hk, hT, if_neg (by decide), if_pos rfl] at hcd
      have hrH := Lib.hid (show (([], 2) : List Pl × Int) = combR gs ts xs ys t dx dy by unfold combR; rw [if_neg (by rw [hk]; decide), if_pos hT])
      have hcdH := Lib.hid hcd
      clear hk hcd hT
      go_enter Tryz.func12, Tryz.ntmps12
      go_wp2_with fail
      refine (handsCode_any (N := 2) (Ls := [xs, ys]) (hSH.out.toTS.below (by exact bel_)) (lrow_two (g := w.heap.size + 1 + 1 + 1 + 1 + 1 + 1) (A := A) (C := C) (q := q) (ca := ca) (nb := nb) (cb := cb) (by simp) (by go_simp) (by go_simp) (hSH.out.A.below RPl.stable (by exact bel_)) (hS2H.out.A.below RPl.stable (by exact bel_)) hq1 hq2) rfl (by decide)).mono ?_
      rw [hcdH.out]
      rintro e w1 ⟨rfl, hb1⟩
      have hb10 := Lib.hid (show Below w.heap.size w w1 by exact bel_)
      obtain ⟨chb1, fhb1, shb1, thb1⟩ := bcell hb1
      have s4 := shb1 (w.heap.size + 1 + 1 + 1 + 1) (by go_simp)
      go_wp2
      refine bodyPost_ret (v := .tuple #[.agg #[.slice none 0 0], .int .i64 2]) (by simp only [results, Tryz.results12]; go_simp) rfl ?_
      exact AsmRes.lift (base := w.heap.size) hrH.out rfl (World.ownsRow_nil _ _ _ _) (Nat.le_refl _) (hb10.out.setCell (p := ⟨w.heap.size + 1 + 1 + 1 + 1, 0, none⟩) (by simp; omega) _)
    · rw [hk, hT, if_neg (by decide), if_neg (by decide)] at hcd
      have hrH := Lib.hid (show combE gs ts xs ys t dx dy = combR gs ts xs ys t dx dy by unfold combR; rw [if_neg (by rw [hk]; decide), if_neg (by rw [hT]; decide)])
      have hk2 : validAsmB gs ts xs = true ∧ validAsmB gs ts ys = true := by unfold askJ at hk; simpa using hk
      have hV := Lib.hid (valid_of hk2.1)
      have hV2 := Lib.hid (valid_of hk2.2)
      have hT1 : 1 ≤ t := (inB_true.1 hT).1
      have hcdH := Lib.hid hcd
      clear hk hcd hT hk2
      go_enter Tryz.func12, Tryz.ntmps12
      go_wp2_with fail
      refine (handsCode_any (N := 2) (Ls := [xs, ys]) (hSH.out.toTS.below (by exact bel_)) (lrow_two (g := w.heap.size + 1 + 1 + 1 + 1 + 1 + 1) (A := A) (C := C) (q := q) (ca := ca) (nb := nb) (cb := cb) (by simp) (by go_simp) (by go_simp) (hSH.out.A.below RPl.stable (by exact bel_)) (hS2H.out.A.below RPl.stable (by exact bel_)) hq1 hq2) rfl (by decide)).mono ?_
      rw [hcdH.out]
      rintro e w1 ⟨rfl, hb1⟩
      have hb10 := Lib.hid (show Below w.heap.size w w1 by exact bel_)
      obtain ⟨chb1, fhb1, shb1, thb1⟩ := bcell hb1
      have s1 := shb1 (w.heap.size + 1) (by go_simp)
      have s2 := shb1 (w.heap.size + 1 + 1) (by go_simp)
      have s3 := shb1 (w.heap.size + 1 + 1 + 1) (by go_simp)
      have s4 := shb1 (w.heap.size + 1 + 1 + 1 + 1) (by go_simp)
      have s5 := shb1 (w.heap.size + 1 + 1 + 1 + 1 + 1) (by go_simp)
      go_wp2_with fail
      refine (combine_any G T A C n cg m ct q ca nb cb gs ts xs ys t dx dy _ (hSH.out.below (show Below w.heap.size w w1 from hb10.out)) (hS2H.out.A.below RPl.stable hb10.out) hV.out hV2.out hT1).mono ?_
      rintro e w2 ⟨B, c2, rfl, hown, hb2⟩
      obtain ⟨r, hr⟩ : ∃ r, combE gs ts xs ys t dx dy = r := ⟨_, rfl⟩
      rw [hr] at hown hrH ⊢
      have y4 : w1.cell? ⟨w.heap.size + 1 + 1 + 1 + 1, 0, none⟩ = some (.slice none 0 0) := (hb1.cell (p := ⟨w.heap.size + 1 + 1 + 1 + 1, 0, none⟩) (by simp)).trans (by go_simp)
      have k4 : w1.frozen? ⟨w.heap.size + 1 + 1 + 1 + 1, 0, none⟩ = false := (hb1.frozen (p := ⟨w.heap.size + 1 + 1 + 1 + 1, 0, none⟩) (by simp)).trans (by go_simp)
      replace y4 := (hb2.cell (p := ⟨w.heap.size + 1 + 1 + 1 + 1, 0, none⟩) s4).trans y4
      replace k4 := (hb2.frozen (p := ⟨w.heap.size + 1 + 1 + 1 + 1, 0, none⟩) s4).trans k4
      have s6 : w.heap.size + 1 + 1 + 1 + 1 < w2.heap.size := Nat.lt_of_lt_of_le s4 hb2.size
      have hown2 := Lib.hid (ownsRow_setCell_below hown (a := ⟨w.heap.size + 1 + 1 + 1 + 1, 0, none⟩) s4 (.slice B r.1.length c2))
      have hge : w.heap.size ≤ w1.heap.size := by omega
      have hbw2 := Lib.hid (hb10.out.trans (hb2.mono hge))
      clear hb2 hown hr hb1 chb1 fhb1 shb1 thb1
      go_wp2
      refine bodyPost_ret (v := .tuple #[.agg #[.slice B r.1.length c2], .int .i64 r.2]) (by simp only [results, Tryz.results12]; go_simp) rfl ?_
      rw [← hrH.out]
      exact ⟨B, c2, rfl, ownsRow_baseU hown2.out hge, hbw2.out.setCell (p := ⟨w.heap.size + 1 + 1 + 1 + 1, 0, none⟩) (by simp; omega) _⟩
end Go.Proofs.YtedihnokcpnikaaGreat
/- Walk: the reference's join of two assemblies of which the second stands free. -/



namespace Go.Proofs.YtedihnokcpnikaaGreat
open Go.RowKit Go.Shelf
attribute [local go_sem] BelowBy.cell BelowBy.cell_drew stillUpon givesUpon BelowBy.cell_drew2 BelowBy.cell_drew3

theorem mg_left {L xs ms Z : List Pl} {i k : Nat} {a : Pl} (hZ : L ++ List.merge (xs.drop i) (ms.drop k) lePl = Z) (ha : xs[i]? = some a) (hb : ∀ b, ms[k]? = some b → ltPl a b = true) :
    (L ++ [a]) ++ List.merge (xs.drop (i + 1)) (ms.drop k) lePl = Z := by
  obtain ⟨hi, rfl⟩ := List.getElem?_eq_some_iff.1 ha
  rw [← hZ, List.append_assoc, List.drop_eq_getElem_cons hi]
  congr 1
  by_cases hk : k < ms.length
  · rw [List.drop_eq_getElem_cons hk, List.merge, if_pos]
    · rfl
    · have := hb _ (List.getElem?_eq_getElem hk)
      rw [ltPl_iff] at this
      rw [lePl_iff]; omega
  · rw [show ms.drop k = [] from List.drop_eq_nil_of_le (by omega)]
    simp
theorem mg_right {L xs ms Z : List Pl} {i k : Nat} {b : Pl} (hZ : L ++ List.merge (xs.drop i) (ms.drop k) lePl = Z) (hb : ms[k]? = some b) (ha : ∀ a, xs[i]? = some a → ltPl b a = true) :
    (L ++ [b]) ++ List.merge (xs.drop i) (ms.drop (k + 1)) lePl = Z := by
  obtain ⟨hk, rfl⟩ := List.getElem?_eq_some_iff.1 hb
  rw [← hZ, List.append_assoc, List.drop_eq_getElem_cons hk]
  congr 1
  by_cases hi : i < xs.length
  · rw [List.drop_eq_getElem_cons hi, List.merge, if_neg]
    · rfl
    · have := ha _ (List.getElem?_eq_getElem hi)
      rw [ltPl_iff] at this
      rw [lePl_iff]; omega
  · rw [show xs.drop i = [] from List.drop_eq_nil_of_le (by omega)]
    simp
theorem ownsRow_baseV {w : World} {base base' : Nat} {e : TypeId} {size : Nat} {v : Value} {n : Nat} {xs : List Value} (h : w.ownsRow base e size v n xs) (hb : base' ≤ base) : w.ownsRow base' e size v n xs :=
  ⟨h.1, h.2.imp id (fun ⟨g, cap, cur, h1, h2, h3⟩ => ⟨g, cap, cur, h1, Nat.le_trans hb h2, h3⟩)⟩
def JoinS (w : World) (Z : List Pl) (e : Ending) (w' : World) : Prop :=
  ∃ B c', e = .returned (.tuple #[.agg #[.slice B Z.length c'], .bool true]) ∧ w'.ownsRow w.heap.size 127 3 (.slice B Z.length c') Z.length (plCells Z) ∧ Below w.heap.size w w'
set_option maxRecDepth 100000 in
set_option maxHeartbeats 8000000 in
theorem l03Join_any (pa pb : Nat) (gs : List Gl) (ts : List Ti) (xs ms : List Pl) (w : World) (ha : AsmAt w pa 0 xs) (hb : AsmAt w pb 0 ms) (h2 : Two gs ts xs ms) (hml : ms.length ≤ 500) :
    Calls Tryz.prog 66 #[.pointer (some ⟨pa, 0, none⟩), .pointer (some ⟨pb, 0, none⟩)] w (JoinS w (sortPl (xs ++ ms))) := by
  obtain ⟨i2, hi2, hz02, hz12, hz22⟩ := info_parts infoPl
  obtain ⟨hlta, ⟨A, n, ca, ha1, ha2⟩⟩ := ha
  obtain ⟨hltb, ⟨C, m, cb, hb1, hb2⟩⟩ := hb
  have hln := ha2.len
  have hlm := hb2.len
  have hn5 := h2.V.len
  rw [hln] at hn5
  rw [hlm] at hml
  have hM := Lib.hid h2.merge
  have hAp := Lib.hid (fun (i k : Nat) (a b : Pl) (hxa : xs[i]? = some a) (hmb : ms[k]? = some b) => free_apart h2.V hmb (h2.fr k (lt_of_get hmb)) a (List.mem_of_getElem? hxa))
  have haH := Lib.hid ha2
  have hbH := Lib.hid hb2
  have ha1H := Lib.hid ha1
  have hb1H := Lib.hid hb1
  clear h2 ha2 hb2 ha1 hb1
  obtain ⟨Z, hZ⟩ : ∃ Z, sortPl (xs ++ ms) = Z := ⟨_, rfl⟩
  rw [hZ] at hM ⊢
  clear hZ
  go_enter Tryz.func66, Tryz.ntmps66
  go_wp2
  go_loopg [7, 8] (n + m) (fun r x y wr => ∃ (i k : Nat) (L : List Pl) (A3 : Option Addr) (c3 : Nat), i + k + r = n + m ∧ i ≤ n ∧ k ≤ m ∧ x = .int .i64 (i : Int) ∧ y = .int .i64 (k : Int) ∧ Hid (L ++ List.merge (xs.drop i) (ms.drop k) lePl = Z) ∧ Hid (L.length = i + k) ∧ Hid (wr.ownsRow (w.heap.size + 2) 127 3 (.slice A3 (i + k) c3) (i + k) (plCells L)) ∧ Hid (Below w.heap.size w wr) ∧ w.heap.size + 1 < wr.heap.size ∧ wr.cell? ⟨w.heap.size, 0, none⟩ = some (.slice none 0 0) ∧ wr.frozen? ⟨w.heap.size, 0, none⟩ = false ∧ wr.cell? ⟨w.heap.size + 1, 0, none⟩ = some (.slice A3 (i + k) c3) ∧ wr.frozen? ⟨w.heap.size + 1, 0, none⟩ = false)
  case atStart => exact ⟨0, 0, [], none, 0, by omega, by omega, by omega, rfl, rfl, Lib.hid (by simpa using hM.out), Lib.hid rfl, Lib.hid (World.ownsRow_nil _ _ _ _), Lib.hid (by exact bel_), by simp, by go_simp, by go_simp, by go_simp, by go_simp⟩
  case round =>
    obtain ⟨i, k, L, A3, c3, hr, hin, hkm, rfl, rfl, hmg, hLl, hO, hbw, hsz, r0, rf, d0, df⟩ := hrel
    have hsw := hbw.out.size
    have ga : wr.cell? ⟨pa, 0, none⟩ = some (.slice A n ca) := (hbw.out.cell (p := ⟨pa, 0, none⟩) hlta).trans ha1H.out
    have gb : wr.cell? ⟨pb, 0, none⟩ = some (.slice C m cb) := (hbw.out.cell (p := ⟨pb, 0, none⟩) hltb).trans hb1H.out
    have la : pa < wr.heap.size := by omega
    have lb : pb < wr.heap.size := by omega
    have l0 : w.heap.size < wr.heap.size := by omega
    by_cases hin2 : i < n
    · obtain ⟨a, hxa⟩ : ∃ a, xs[i]? = some a := ⟨_, List.getElem?_eq_getElem (by omega)⟩
      obtain ⟨bA, oA, rfl, hbA, hcA⟩ := (haH.out.below RPl.stable hbw.out).ptr (by omega)
      obtain ⟨a0, a1, a2⟩ := hcA i a hxa
      have hxaH := Lib.hid hxa
      clear hcA hxa
      have e2 : ((i : Int) == (n : Int)) = false := by simp; omega
      by_cases hkm2 : k < m
      · obtain ⟨b, hmb⟩ : ∃ b, ms[k]? = some b := ⟨_, List.getElem?_eq_getElem (by omega)⟩
        obtain ⟨bB, oB, rfl, hbB, hcB⟩ := (hbH.out.below RPl.stable hbw.out).ptr (by omega)
        obtain ⟨b0, b1, b2⟩ := hcB k b hmb
        have hmbH := Lib.hid hmb
        clear hcB hmb
        have e1 : ((k : Int) == (m : Int)) = false := by simp; omega
        cases hlt : lessPt a.x a.y b.x b.y
        · have hgt : lessPt b.x b.y a.x a.y = true := by
            have h3 := hAp.out i k a b hxaH.out hmbH.out
            have h4 : ¬ (a.y < b.y ∨ (a.y = b.y ∧ a.x < b.x)) := by rw [← lessPt_iff, hlt]; decide
            unfold apart at h3
            rw [lessPt_iff]; omega
          have hnx := Lib.hid (mg_right hmg.out hmbH.out (fun a2 h2 => by rw [hxaH.out] at h2; obtain rfl := Option.some.inj h2; exact hgt))
          have hltH := Lib.hid hlt
          have hgtH := Lib.hid hgt
          clear hlt hgt
          go_wp2
          refine wp_region_ord [(0, .q), (1, .q), (2, .q), (3, .q), (4, .q), (5, .q), (6, .q), (7, .q), (8, .q), (9, .q), (10, .q), (11, .q), (12, .q), (13, .q), (14, .q), (15, .q), (16, .q), (17, .q), (18, .q), (19, .q), (20, .q), (21, .q), (22, .q), (23, .q), (24, .q), (25, .q), (26, .q), (27, .q), (28, .q), (29, .q), (30, .q), (31, .q), (32, .g), (33, .q), (34, .q), (35, .q)] (by kernel_rfl) (by kernel_rfl) ?_
          simp only [pick, List.filterMap_cons, List.filterMap_nil, List.getElem?_toArray, List.getElem?_cons_zero, List.getElem?_cons_succ, Option.map_some]
          repeat (first
            | ((with_reducible refine wpD_p (fun K hK => ?_)); go_simp; refine hK _ ?_; clear hK K)
            | ((with_reducible refine wpD_q (fun K hK => ?_)); go_simp; (first | refine hK _ ?_ | (go_bits; refine hK _ ?_) | (go_bits; go_simp; refine hK _ ?_)); clear hK K)
            | ((with_reducible refine wpD_g (fun K hK => ?_)); go_simp; refine hK _ _ ?_; clear hK K)
            | ((with_reducible refine wpD_g (fun K hK => ?_)); go_simp; refine ⟨Grew.of_alloc _, hK _ _ ?_⟩; clear hK K)
            | ((with_reducible refine wpD_g (fun K hK => ?_)); go_simp; refine ⟨Below.refl _ _, hK _ _ ?_⟩; clear hK K)
            | ((with_reducible refine wpD_g (fun K hK => ?_)); go_simp; go_at_call 111; refine (sLessPoint_at hltH.out).mono ?_; rintro e w2 ⟨rfl, hbw2⟩; refine ⟨_, rfl, hbw2, hK _ _ ?_⟩; clear hK K; obtain ⟨chbw2, fhbw2, shbw2, thbw2⟩ := bcell hbw2))
          with_reducible refine wpD_nil ?_
          have hBw2 : Below wr.heap.size wr w2 := by exact bel_
          clear hbw2 chbw2 fhbw2 shbw2 thbw2
          replace a0 := (hBw2.cell (p := ⟨bA, oA + i * 3, none⟩) hbA).trans a0
          replace a1 := (hBw2.cell (p := ⟨bA, oA + i * 3 + 1, none⟩) hbA).trans a1
          replace a2 := (hBw2.cell (p := ⟨bA, oA + i * 3 + 2, none⟩) hbA).trans a2
          replace hbA := Nat.lt_of_lt_of_le hbA hBw2.size
          replace b0 := (hBw2.cell (p := ⟨bB, oB + k * 3, none⟩) hbB).trans b0
          replace b1 := (hBw2.cell (p := ⟨bB, oB + k * 3 + 1, none⟩) hbB).trans b1
          replace b2 := (hBw2.cell (p := ⟨bB, oB + k * 3 + 2, none⟩) hbB).trans b2
          replace hbB := Nat.lt_of_lt_of_le hbB hBw2.size
          replace d0 := (hBw2.cell (p := ⟨w.heap.size + 1, 0, none⟩) hsz).trans d0
          replace df := (hBw2.frozen (p := ⟨w.heap.size + 1, 0, none⟩) hsz).trans df
          replace r0 := (hBw2.cell (p := ⟨w.heap.size, 0, none⟩) l0).trans r0
          replace rf := (hBw2.frozen (p := ⟨w.heap.size, 0, none⟩) l0).trans rf
          replace ga := (hBw2.cell (p := ⟨pa, 0, none⟩) la).trans ga
          replace gb := (hBw2.cell (p := ⟨pb, 0, none⟩) lb).trans gb
          replace hO := Lib.hid (ownsRow_below hO.out hBw2)
          replace hbw := Lib.hid (hbw.out.trans (Below.mono hBw2 hsw))
          replace hsz := Nat.lt_of_lt_of_le hsz hBw2.size
          replace la := Nat.lt_of_lt_of_le la hBw2.size
          replace lb := Nat.lt_of_lt_of_le lb hBw2.size
          replace l0 := Nat.lt_of_lt_of_le l0 hBw2.size
          replace hsw := Nat.le_trans hsw hBw2.size
          clear hBw2
          go_wp2
          refine wp_region_ord [(0, .q), (1, .q), (2, .q), (3, .q), (4, .q), (5, .q), (6, .q), (7, .q), (8, .q), (9, .q), (10, .q), (11, .q), (12, .q), (13, .q), (14, .q), (15, .q), (16, .q), (17, .q), (18, .q), (19, .q), (20, .q), (21, .q), (22, .q), (23, .q), (24, .g), (25, .q), (26, .q)] (by kernel_rfl) (by kernel_rfl) ?_
          simp only [pick, List.filterMap_cons, List.filterMap_nil, List.getElem?_toArray, List.getElem?_cons_zero, List.getElem?_cons_succ, Option.map_some]
          repeat (first
            | ((with_reducible refine wpD_p (fun K hK => ?_)); go_simp; refine hK _ ?_; clear hK K)
            | ((with_reducible refine wpD_q (fun K hK => ?_)); go_simp; (first | refine hK _ ?_ | (go_bits; refine hK _ ?_) | (go_bits; go_simp; refine hK _ ?_)); clear hK K)
            | ((with_reducible refine wpD_g (fun K hK => ?_)); go_simp; refine hK _ _ ?_; clear hK K)
            | ((with_reducible refine wpD_g (fun K hK => ?_)); go_simp; refine ⟨Grew.of_alloc _, hK _ _ ?_⟩; clear hK K)
            | ((with_reducible refine wpD_g (fun K hK => ?_)); go_simp; refine ⟨Below.refl _ _, hK _ _ ?_⟩; clear hK K)
            | ((with_reducible refine wpD_g (fun K hK => ?_)); go_simp; go_at_call 111; refine (sLessPoint_at hgtH.out).mono ?_; rintro e w3 ⟨rfl, hbw3⟩; refine ⟨_, rfl, hbw3, hK _ _ ?_⟩; clear hK K; obtain ⟨chbw3, fhbw3, shbw3, thbw3⟩ := bcell hbw3))
          with_reducible refine wpD_nil ?_
          have hBw3 : Below w2.heap.size w2 w3 := by exact bel_
          clear hbw3 chbw3 fhbw3 shbw3 thbw3
          replace a0 := (hBw3.cell (p := ⟨bA, oA + i * 3, none⟩) hbA).trans a0
          replace a1 := (hBw3.cell (p := ⟨bA, oA + i * 3 + 1, none⟩) hbA).trans a1
          replace a2 := (hBw3.cell (p := ⟨bA, oA + i * 3 + 2, none⟩) hbA).trans a2
          replace hbA := Nat.lt_of_lt_of_le hbA hBw3.size
          replace b0 := (hBw3.cell (p := ⟨bB, oB + k * 3, none⟩) hbB).trans b0
          replace b1 := (hBw3.cell (p := ⟨bB, oB + k * 3 + 1, none⟩) hbB).trans b1
          replace b2 := (hBw3.cell (p := ⟨bB, oB + k * 3 + 2, none⟩) hbB).trans b2
          replace hbB := Nat.lt_of_lt_of_le hbB hBw3.size
          replace d0 := (hBw3.cell (p := ⟨w.heap.size + 1, 0, none⟩) hsz).trans d0
          replace df := (hBw3.frozen (p := ⟨w.heap.size + 1, 0, none⟩) hsz).trans df
          replace r0 := (hBw3.cell (p := ⟨w.heap.size, 0, none⟩) l0).trans r0
          replace rf := (hBw3.frozen (p := ⟨w.heap.size, 0, none⟩) l0).trans rf
          replace ga := (hBw3.cell (p := ⟨pa, 0, none⟩) la).trans ga
          replace gb := (hBw3.cell (p := ⟨pb, 0, none⟩) lb).trans gb
          replace hO := Lib.hid (ownsRow_below hO.out hBw3)
          replace hbw := Lib.hid (hbw.out.trans (Below.mono hBw3 hsw))
          replace hsz := Nat.lt_of_lt_of_le hsz hBw3.size
          replace la := Nat.lt_of_lt_of_le la hBw3.size
          replace lb := Nat.lt_of_lt_of_le lb hBw3.size
          replace l0 := Nat.lt_of_lt_of_le l0 hBw3.size
          replace hsw := Nat.le_trans hsw hBw3.size
          clear hBw3
          go_wp2
          refine wp_region_ord [(0, .q), (1, .q), (2, .q), (3, .q), (4, .q), (5, .q), (6, .q), (7, .q), (8, .q), (9, .g), (10, .b), (11, .q), (12, .b)] (by kernel_rfl) (by kernel_rfl) ?_
          simp only [pick, List.filterMap_cons, List.filterMap_nil, List.getElem?_toArray, List.getElem?_cons_zero, List.getElem?_cons_succ, Option.map_some]
          repeat (first
            | ((with_reducible refine wpD_p (fun K hK => ?_)); go_simp; refine hK _ ?_; clear hK K)
            | ((with_reducible refine wpD_q (fun K hK => ?_)); go_simp; (first | refine hK _ ?_ | (go_bits; refine hK _ ?_) | (go_bits; go_simp; refine hK _ ?_)); clear hK K)
            | ((with_reducible refine wpD_g (fun K hK => ?_)); go_simp; refine hK _ _ ?_; clear hK K)
            | ((with_reducible refine wpD_g (fun K hK => ?_)); go_simp; refine ⟨Grew.of_alloc _, hK _ _ ?_⟩; clear hK K))
          refine wpD_append rfl _ _ 33 rfl (w.heap.size + 2) 127 i2 (.agg #[.int .i64 0, .int .i64 0, .int .i64 0]) 3 24 Tryz.underlying33 hi2 hz02 hz12 hz22 rfl (by decide) (.slice A3 (i + k) c3) (i + k) (plCells L) (by go_simp) (ownsRow_below hO.out (by exact bel_)) ⟨w3.heap.size, 0, none⟩ 1 1 [.int .i64 b.x, .int .i64 b.y, .int .i64 b.t] (by go_simp) rfl ?hnews (fun x hx => by simp at hx; rcases hx with rfl | rfl | rfl <;> rfl) (by unfold maxLen; omega) (by omega) (by simp; omega) ?_
          case hnews =>
            have := cell_three_new w3 (.int .i64 b.x) (.int .i64 b.y) (.int .i64 b.t) 127
            simpa using this
          intro v5 w5 hown5 hgrow5
          obtain ⟨A5, c5, rfl⟩ := ownsRow_form hown5
          have hT : Below w3.heap.size w3 (w3.alloc (Obj.cells #[.int .i64 b.x, .int .i64 b.y, .int .i64 b.t] 127)).drew := bl_dr (bl_al (bl_refl _) _)
          have hbX : Below (w.heap.size + 2) w3 w5 := (hT.mono (by omega)).grown hgrow5 (by simp; omega) (fun g e => (hO.out.lt g e).1)
          have m0 := (hbX.cell (p := ⟨w.heap.size, 0, none⟩) (by simp)).trans r0
          have m1 := (hbX.frozen (p := ⟨w.heap.size, 0, none⟩) (by simp)).trans rf
          have m2 := (hbX.cell (p := ⟨w.heap.size + 1, 0, none⟩) (by simp)).trans d0
          have mf := (hbX.frozen (p := ⟨w.heap.size + 1, 0, none⟩) (by simp)).trans df
          have l5 : w.heap.size + 1 < w5.heap.size := by have := hbX.size; omega
          have l50 : w.heap.size < w5.heap.size := by omega
          have hown5H := Lib.hid hown5
          have hbXH := Lib.hid (hbw.out.trans (hbX.mono (by omega)))
          clear hown5 hgrow5 hbX hT r0 rf d0 df
          repeat (first | ((with_reducible refine wpD_p (fun K hK => ?_)); go_simp; refine hK _ ?_; clear hK K) | ((with_reducible refine wpD_q (fun K hK => ?_)); go_simp; (first | refine hK _ ?_ | (go_bits; refine hK _ ?_) | (go_bits; go_simp; refine hK _ ?_)); clear hK K))
          with_reducible refine wpD_b (fun K hK => ?_)
          go_simp
          refine hK _ _ ?_
          clear hK K
          with_reducible refine wpD_nil ?_
          go_wp2
          go_roundg (n + m - (i + k + 1))
          case measure => omega
          case rel =>
            refine ⟨i, k + 1, L ++ [b], A5, c5, by omega, by omega, by omega, by go_num, by go_num, hnx, Lib.hid (by rw [List.length_append, hLl.out]; simp; omega), Lib.hid ?_, Lib.hid (hbXH.out.setCell (p := ⟨w.heap.size + 1, 0, none⟩) (by simp) _), by simp; omega, by go_simp, by go_simp, ?_, by go_simp⟩
            · rw [show i + (k + 1) = i + k + 1 by omega, plCells_snoc]
              exact ownsRow_setCell_below hown5H.out (by simp) _
            · rw [show i + (k + 1) = i + k + 1 by omega]; go_simp
        · have hnx := Lib.hid (mg_left hmg.out hxaH.out (fun b2 h2 => by rw [hmbH.out] at h2; obtain rfl := Option.some.inj h2; exact hlt))
          have hltH := Lib.hid hlt
          clear hlt
          go_wp2
          refine wp_region_ord [(0, .q), (1, .q), (2, .q), (3, .q), (4, .q), (5, .q), (6, .q), (7, .q), (8, .q), (9, .q), (10, .q), (11, .q), (12, .q), (13, .q), (14, .q), (15, .q), (16, .q), (17, .q), (18, .q), (19, .q), (20, .q), (21, .q), (22, .q), (23, .q), (24, .q), (25, .q), (26, .q), (27, .q), (28, .q), (29, .q), (30, .q), (31, .q), (32, .g), (33, .q), (34, .q), (35, .q)] (by kernel_rfl) (by kernel_rfl) ?_
          simp only [pick, List.filterMap_cons, List.filterMap_nil, List.getElem?_toArray, List.getElem?_cons_zero, List.getElem?_cons_succ, Option.map_some]
          repeat (first
            | ((with_reducible refine wpD_p (fun K hK => ?_)); go_simp; refine hK _ ?_; clear hK K)
            | ((with_reducible refine wpD_q (fun K hK => ?_)); go_simp; (first | refine hK _ ?_ | (go_bits; refine hK _ ?_) | (go_bits; go_simp; refine hK _ ?_)); clear hK K)
            | ((with_reducible refine wpD_g (fun K hK => ?_)); go_simp; refine hK _ _ ?_; clear hK K)
            | ((with_reducible refine wpD_g (fun K hK => ?_)); go_simp; refine ⟨Grew.of_alloc _, hK _ _ ?_⟩; clear hK K)
            | ((with_reducible refine wpD_g (fun K hK => ?_)); go_simp; refine ⟨Below.refl _ _, hK _ _ ?_⟩; clear hK K)
            | ((with_reducible refine wpD_g (fun K hK => ?_)); go_simp; go_at_call 111; refine (sLessPoint_at hltH.out).mono ?_; rintro e w2 ⟨rfl, hbw2⟩; refine ⟨_, rfl, hbw2, hK _ _ ?_⟩; clear hK K; obtain ⟨chbw2, fhbw2, shbw2, thbw2⟩ := bcell hbw2))
          with_reducible refine wpD_nil ?_
          have hBw2 : Below wr.heap.size wr w2 := by exact bel_
          clear hbw2 chbw2 fhbw2 shbw2 thbw2
          replace a0 := (hBw2.cell (p := ⟨bA, oA + i * 3, none⟩) hbA).trans a0
          replace a1 := (hBw2.cell (p := ⟨bA, oA + i * 3 + 1, none⟩) hbA).trans a1
          replace a2 := (hBw2.cell (p := ⟨bA, oA + i * 3 + 2, none⟩) hbA).trans a2
          replace hbA := Nat.lt_of_lt_of_le hbA hBw2.size
          replace b0 := (hBw2.cell (p := ⟨bB, oB + k * 3, none⟩) hbB).trans b0
          replace b1 := (hBw2.cell (p := ⟨bB, oB + k * 3 + 1, none⟩) hbB).trans b1
          replace b2 := (hBw2.cell (p := ⟨bB, oB + k * 3 + 2, none⟩) hbB).trans b2
          replace hbB := Nat.lt_of_lt_of_le hbB hBw2.size
          replace d0 := (hBw2.cell (p := ⟨w.heap.size + 1, 0, none⟩) hsz).trans d0
          replace df := (hBw2.frozen (p := ⟨w.heap.size + 1, 0, none⟩) hsz).trans df
          replace r0 := (hBw2.cell (p := ⟨w.heap.size, 0, none⟩) l0).trans r0
          replace rf := (hBw2.frozen (p := ⟨w.heap.size, 0, none⟩) l0).trans rf
          replace ga := (hBw2.cell (p := ⟨pa, 0, none⟩) la).trans ga
          replace gb := (hBw2.cell (p := ⟨pb, 0, none⟩) lb).trans gb
          replace hO := Lib.hid (ownsRow_below hO.out hBw2)
          replace hbw := Lib.hid (hbw.out.trans (Below.mono hBw2 hsw))
          replace hsz := Nat.lt_of_lt_of_le hsz hBw2.size
          replace la := Nat.lt_of_lt_of_le la hBw2.size
          replace lb := Nat.lt_of_lt_of_le lb hBw2.size
          replace l0 := Nat.lt_of_lt_of_le l0 hBw2.size
          replace hsw := Nat.le_trans hsw hBw2.size
          clear hBw2
          go_wp2
          refine wp_region_ord [(0, .q), (1, .q), (2, .q), (3, .q), (4, .q), (5, .q), (6, .q), (7, .q), (8, .q), (9, .g), (10, .b), (11, .q), (12, .b)] (by kernel_rfl) (by kernel_rfl) ?_
          simp only [pick, List.filterMap_cons, List.filterMap_nil, List.getElem?_toArray, List.getElem?_cons_zero, List.getElem?_cons_succ, Option.map_some]
          repeat (first
            | ((with_reducible refine wpD_p (fun K hK => ?_)); go_simp; refine hK _ ?_; clear hK K)
            | ((with_reducible refine wpD_q (fun K hK => ?_)); go_simp; (first | refine hK _ ?_ | (go_bits; refine hK _ ?_) | (go_bits; go_simp; refine hK _ ?_)); clear hK K)
            | ((with_reducible refine wpD_g (fun K hK => ?_)); go_simp; refine hK _ _ ?_; clear hK K)
            | ((with_reducible refine wpD_g (fun K hK => ?_)); go_simp; refine ⟨Grew.of_alloc _, hK _ _ ?_⟩; clear hK K))
          refine wpD_append rfl _ _ 33 rfl (w.heap.size + 2) 127 i2 (.agg #[.int .i64 0, .int .i64 0, .int .i64 0]) 3 24 Tryz.underlying33 hi2 hz02 hz12 hz22 rfl (by decide) (.slice A3 (i + k) c3) (i + k) (plCells L) (by go_simp) (ownsRow_below hO.out (by exact bel_)) ⟨w2.heap.size, 0, none⟩ 1 1 [.int .i64 a.x, .int .i64 a.y, .int .i64 a.t] (by go_simp) rfl ?hnews (fun x hx => by simp at hx; rcases hx with rfl | rfl | rfl <;> rfl) (by unfold maxLen; omega) (by omega) (by simp; omega) ?_
          case hnews =>
            have := cell_three_new w2 (.int .i64 a.x) (.int .i64 a.y) (.int .i64 a.t) 127
            simpa using this
          intro v5 w5 hown5 hgrow5
          obtain ⟨A5, c5, rfl⟩ := ownsRow_form hown5
          have hT : Below w2.heap.size w2 (w2.alloc (Obj.cells #[.int .i64 a.x, .int .i64 a.y, .int .i64 a.t] 127)).drew := bl_dr (bl_al (bl_refl _) _)
          have hbX : Below (w.heap.size + 2) w2 w5 := (hT.mono (by omega)).grown hgrow5 (by simp; omega) (fun g e => (hO.out.lt g e).1)
          have m0 := (hbX.cell (p := ⟨w.heap.size, 0, none⟩) (by simp)).trans r0
          have m1 := (hbX.frozen (p := ⟨w.heap.size, 0, none⟩) (by simp)).trans rf
          have m2 := (hbX.cell (p := ⟨w.heap.size + 1, 0, none⟩) (by simp)).trans d0
          have mf := (hbX.frozen (p := ⟨w.heap.size + 1, 0, none⟩) (by simp)).trans df
          have l5 : w.heap.size + 1 < w5.heap.size := by have := hbX.size; omega
          have l50 : w.heap.size < w5.heap.size := by omega
          have hown5H := Lib.hid hown5
          have hbXH := Lib.hid (hbw.out.trans (hbX.mono (by omega)))
          clear hown5 hgrow5 hbX hT r0 rf d0 df
          repeat (first | ((with_reducible refine wpD_p (fun K hK => ?_)); go_simp; refine hK _ ?_; clear hK K) | ((with_reducible refine wpD_q (fun K hK => ?_)); go_simp; (first | refine hK _ ?_ | (go_bits; refine hK _ ?_) | (go_bits; go_simp; refine hK _ ?_)); clear hK K))
          with_reducible refine wpD_b (fun K hK => ?_)
          go_simp
          refine hK _ _ ?_
          clear hK K
          with_reducible refine wpD_nil ?_
          go_wp2
          go_roundg (n + m - (i + k + 1))
          case measure => omega
          case rel =>
            refine ⟨i + 1, k, L ++ [a], A5, c5, by omega, by omega, by omega, by go_num, by go_num, hnx, Lib.hid (by rw [List.length_append, hLl.out]; simp; omega), Lib.hid ?_, Lib.hid (hbXH.out.setCell (p := ⟨w.heap.size + 1, 0, none⟩) (by simp) _), by simp; omega, by go_simp, by go_simp, ?_, by go_simp⟩
            · rw [show (i + 1) + k = i + k + 1 by omega, plCells_snoc]
              exact ownsRow_setCell_below hown5H.out (by simp) _
            · rw [show (i + 1) + k = i + k + 1 by omega]; go_simp
      · obtain rfl : k = m := by omega
        have hnx := Lib.hid (mg_left hmg.out hxaH.out (fun b2 h2 => by have := lt_of_get h2; omega))
        go_wp2
        refine wp_region_ord [(0, .q), (1, .q), (2, .q), (3, .q), (4, .q), (5, .q), (6, .q), (7, .q), (8, .q), (9, .q), (10, .q), (11, .q), (12, .q), (13, .q), (14, .q), (15, .q), (16, .q), (17, .q), (18, .q), (19, .q), (20, .q), (21, .q), (22, .q), (23, .q), (24, .q), (25, .q), (26, .q), (27, .q), (28, .q), (29, .q), (30, .q), (31, .q), (32, .g), (33, .q), (34, .q), (35, .q)] (by kernel_rfl) (by kernel_rfl) ?_
        simp only [pick, List.filterMap_cons, List.filterMap_nil, List.getElem?_toArray, List.getElem?_cons_zero, List.getElem?_cons_succ, Option.map_some]
        repeat (first
          | ((with_reducible refine wpD_p (fun K hK => ?_)); go_simp; refine hK _ ?_; clear hK K)
          | ((with_reducible refine wpD_q (fun K hK => ?_)); go_simp; (first | refine hK _ ?_ | (go_bits; refine hK _ ?_) | (go_bits; go_simp; refine hK _ ?_)); clear hK K)
          | ((with_reducible refine wpD_g (fun K hK => ?_)); go_simp; refine hK _ _ ?_; clear hK K)
          | ((with_reducible refine wpD_g (fun K hK => ?_)); go_simp; refine ⟨Grew.of_alloc _, hK _ _ ?_⟩; clear hK K)
          | ((with_reducible refine wpD_g (fun K hK => ?_)); go_simp; refine ⟨Below.refl _ _, hK _ _ ?_⟩; clear hK K))
        with_reducible refine wpD_nil ?_
        have hBw2 : Below wr.heap.size wr wr.drew := bl_dr (bl_refl _)
        generalize wr.drew = w2 at hBw2 ⊢
        replace a0 := (hBw2.cell (p := ⟨bA, oA + i * 3, none⟩) hbA).trans a0
        replace a1 := (hBw2.cell (p := ⟨bA, oA + i * 3 + 1, none⟩) hbA).trans a1
        replace a2 := (hBw2.cell (p := ⟨bA, oA + i * 3 + 2, none⟩) hbA).trans a2
        replace hbA := Nat.lt_of_lt_of_le hbA hBw2.size
        replace d0 := (hBw2.cell (p := ⟨w.heap.size + 1, 0, none⟩) hsz).trans d0
        replace df := (hBw2.frozen (p := ⟨w.heap.size + 1, 0, none⟩) hsz).trans df
        replace r0 := (hBw2.cell (p := ⟨w.heap.size, 0, none⟩) l0).trans r0
        replace rf := (hBw2.frozen (p := ⟨w.heap.size, 0, none⟩) l0).trans rf
        replace ga := (hBw2.cell (p := ⟨pa, 0, none⟩) la).trans ga
        replace gb := (hBw2.cell (p := ⟨pb, 0, none⟩) lb).trans gb
        replace hO := Lib.hid (ownsRow_below hO.out hBw2)
        replace hbw := Lib.hid (hbw.out.trans (Below.mono hBw2 hsw))
        replace hsz := Nat.lt_of_lt_of_le hsz hBw2.size
        replace la := Nat.lt_of_lt_of_le la hBw2.size
        replace lb := Nat.lt_of_lt_of_le lb hBw2.size
        replace l0 := Nat.lt_of_lt_of_le l0 hBw2.size
        replace hsw := Nat.le_trans hsw hBw2.size
        clear hBw2
        go_wp2
        refine wp_region_ord [(0, .q), (1, .q), (2, .q), (3, .q), (4, .q), (5, .q), (6, .q), (7, .q), (8, .q), (9, .g), (10, .b), (11, .q), (12, .b)] (by kernel_rfl) (by kernel_rfl) ?_
        simp only [pick, List.filterMap_cons, List.filterMap_nil, List.getElem?_toArray, List.getElem?_cons_zero, List.getElem?_cons_succ, Option.map_some]
        repeat (first
          | ((with_reducible refine wpD_p (fun K hK => ?_)); go_simp; refine hK _ ?_; clear hK K)
          | ((with_reducible refine wpD_q (fun K hK => ?_)); go_simp; (first | refine hK _ ?_ | (go_bits; refine hK _ ?_) | (go_bits; go_simp; refine hK _ ?_)); clear hK K)
          | ((with_reducible refine wpD_g (fun K hK => ?_)); go_simp; refine hK _ _ ?_; clear hK K)
          | ((with_reducible refine wpD_g (fun K hK => ?_)); go_simp; refine ⟨Grew.of_alloc _, hK _ _ ?_⟩; clear hK K))
        refine wpD_append rfl _ _ 33 rfl (w.heap.size + 2) 127 i2 (.agg #[.int .i64 0, .int .i64 0, .int .i64 0]) 3 24 Tryz.underlying33 hi2 hz02 hz12 hz22 rfl (by decide) (.slice A3 (i + k) c3) (i + k) (plCells L) (by go_simp) (ownsRow_below hO.out (by exact bel_)) ⟨w2.heap.size, 0, none⟩ 1 1 [.int .i64 a.x, .int .i64 a.y, .int .i64 a.t] (by go_simp) rfl ?hnews (fun x hx => by simp at hx; rcases hx with rfl | rfl | rfl <;> rfl) (by unfold maxLen; omega) (by omega) (by simp; omega) ?_
        case hnews =>
          have := cell_three_new w2 (.int .i64 a.x) (.int .i64 a.y) (.int .i64 a.t) 127
          simpa using this
        intro v5 w5 hown5 hgrow5
        obtain ⟨A5, c5, rfl⟩ := ownsRow_form hown5
        have hT : Below w2.heap.size w2 (w2.alloc (Obj.cells #[.int .i64 a.x, .int .i64 a.y, .int .i64 a.t] 127)).drew := bl_dr (bl_al (bl_refl _) _)
        have hbX : Below (w.heap.size + 2) w2 w5 := (hT.mono (by omega)).grown hgrow5 (by simp; omega) (fun g e => (hO.out.lt g e).1)
        have m0 := (hbX.cell (p := ⟨w.heap.size, 0, none⟩) (by simp)).trans r0
        have m1 := (hbX.frozen (p := ⟨w.heap.size, 0, none⟩) (by simp)).trans rf
        have m2 := (hbX.cell (p := ⟨w.heap.size + 1, 0, none⟩) (by simp)).trans d0
        have mf := (hbX.frozen (p := ⟨w.heap.size + 1, 0, none⟩) (by simp)).trans df
        have l5 : w.heap.size + 1 < w5.heap.size := by have := hbX.size; omega
        have l50 : w.heap.size < w5.heap.size := by omega
        have hown5H := Lib.hid hown5
        have hbXH := Lib.hid (hbw.out.trans (hbX.mono (by omega)))
        clear hown5 hgrow5 hbX hT r0 rf d0 df
        repeat (first | ((with_reducible refine wpD_p (fun K hK => ?_)); go_simp; refine hK _ ?_; clear hK K) | ((with_reducible refine wpD_q (fun K hK => ?_)); go_simp; (first | refine hK _ ?_ | (go_bits; refine hK _ ?_) | (go_bits; go_simp; refine hK _ ?_)); clear hK K))
        with_reducible refine wpD_b (fun K hK => ?_)
        go_simp
        refine hK _ _ ?_
        clear hK K
        with_reducible refine wpD_nil ?_
        go_wp2
        go_roundg (n + k - (i + k + 1))
        case measure => omega
        case rel =>
          refine ⟨i + 1, k, L ++ [a], A5, c5, by omega, by omega, by omega, by go_num, by go_num, hnx, Lib.hid (by rw [List.length_append, hLl.out]; simp; omega), Lib.hid ?_, Lib.hid (hbXH.out.setCell (p := ⟨w.heap.size + 1, 0, none⟩) (by simp) _), by simp; omega, by go_simp, by go_simp, ?_, by go_simp⟩
          · rw [show (i + 1) + k = i + k + 1 by omega, plCells_snoc]
            exact ownsRow_setCell_below hown5H.out (by simp) _
          · rw [show (i + 1) + k = i + k + 1 by omega]; go_simp
    · obtain rfl : i = n := by omega
      by_cases hkm2 : k < m
      · obtain ⟨b, hmb⟩ : ∃ b, ms[k]? = some b := ⟨_, List.getElem?_eq_getElem (by omega)⟩
        obtain ⟨bB, oB, rfl, hbB, hcB⟩ := (hbH.out.below RPl.stable hbw.out).ptr (by omega)
        obtain ⟨b0, b1, b2⟩ := hcB k b hmb
        have hmbH := Lib.hid hmb
        clear hcB hmb
        have e1 : ((k : Int) == (m : Int)) = false := by simp; omega
        have hnx := Lib.hid (mg_right hmg.out hmbH.out (fun a2 h2 => by have := lt_of_get h2; omega))
        go_wp2
        refine wp_region_ord [(0, .q), (1, .q), (2, .q), (3, .q), (4, .q), (5, .q), (6, .q), (7, .q), (8, .q), (9, .q), (10, .q), (11, .q), (12, .q), (13, .q), (14, .q), (15, .q), (16, .q), (17, .q), (18, .q), (19, .q), (20, .q), (21, .q), (22, .q), (23, .q), (24, .q), (25, .q), (26, .q), (27, .q), (28, .q), (29, .q), (30, .q), (31, .q), (32, .g), (33, .q), (34, .q), (35, .q)] (by kernel_rfl) (by kernel_rfl) ?_
        simp only [pick, List.filterMap_cons, List.filterMap_nil, List.getElem?_toArray, List.getElem?_cons_zero, List.getElem?_cons_succ, Option.map_some]
        repeat (first
          | ((with_reducible refine wpD_p (fun K hK => ?_)); go_simp; refine hK _ ?_; clear hK K)
          | ((with_reducible refine wpD_q (fun K hK => ?_)); go_simp; (first | refine hK _ ?_ | (go_bits; refine hK _ ?_) | (go_bits; go_simp; refine hK _ ?_)); clear hK K)
          | ((with_reducible refine wpD_g (fun K hK => ?_)); go_simp; refine hK _ _ ?_; clear hK K)
          | ((with_reducible refine wpD_g (fun K hK => ?_)); go_simp; refine ⟨Grew.of_alloc _, hK _ _ ?_⟩; clear hK K)
          | ((with_reducible refine wpD_g (fun K hK => ?_)); go_simp; refine ⟨Below.refl _ _, hK _ _ ?_⟩; clear hK K))
        with_reducible refine wpD_nil ?_
        have hBw2 : Below wr.heap.size wr wr.drew := bl_dr (bl_refl _)
        generalize wr.drew = w2 at hBw2 ⊢
        replace b0 := (hBw2.cell (p := ⟨bB, oB + k * 3, none⟩) hbB).trans b0
        replace b1 := (hBw2.cell (p := ⟨bB, oB + k * 3 + 1, none⟩) hbB).trans b1
        replace b2 := (hBw2.cell (p := ⟨bB, oB + k * 3 + 2, none⟩) hbB).trans b2
        replace hbB := Nat.lt_of_lt_of_le hbB hBw2.size
        replace d0 := (hBw2.cell (p := ⟨w.heap.size + 1, 0, none⟩) hsz).trans d0
        replace df := (hBw2.frozen (p := ⟨w.heap.size + 1, 0, none⟩) hsz).trans df
        replace r0 := (hBw2.cell (p := ⟨w.heap.size, 0, none⟩) l0).trans r0
        replace rf := (hBw2.frozen (p := ⟨w.heap.size, 0, none⟩) l0).trans rf
        replace ga := (hBw2.cell (p := ⟨pa, 0, none⟩) la).trans ga
        replace gb := (hBw2.cell (p := ⟨pb, 0, none⟩) lb).trans gb
        replace hO := Lib.hid (ownsRow_below hO.out hBw2)
        replace hbw := Lib.hid (hbw.out.trans (Below.mono hBw2 hsw))
        replace hsz := Nat.lt_of_lt_of_le hsz hBw2.size
        replace la := Nat.lt_of_lt_of_le la hBw2.size
        replace lb := Nat.lt_of_lt_of_le lb hBw2.size
        replace l0 := Nat.lt_of_lt_of_le l0 hBw2.size
        replace hsw := Nat.le_trans hsw hBw2.size
        clear hBw2
        go_wp2
        refine wp_region_ord [(0, .q), (1, .q), (2, .q), (3, .q), (4, .q), (5, .q), (6, .q), (7, .q), (8, .q), (9, .q), (10, .q), (11, .q), (12, .q), (13, .q), (14, .q), (15, .q), (16, .q), (17, .q), (18, .q), (19, .q), (20, .q), (21, .q), (22, .q), (23, .q), (24, .g), (25, .q), (26, .q)] (by kernel_rfl) (by kernel_rfl) ?_
        simp only [pick, List.filterMap_cons, List.filterMap_nil, List.getElem?_toArray, List.getElem?_cons_zero, List.getElem?_cons_succ, Option.map_some]
        repeat (first
          | ((with_reducible refine wpD_p (fun K hK => ?_)); go_simp; refine hK _ ?_; clear hK K)
          | ((with_reducible refine wpD_q (fun K hK => ?_)); go_simp; (first | refine hK _ ?_ | (go_bits; refine hK _ ?_) | (go_bits; go_simp; refine hK _ ?_)); clear hK K)
          | ((with_reducible refine wpD_g (fun K hK => ?_)); go_simp; refine hK _ _ ?_; clear hK K)
          | ((with_reducible refine wpD_g (fun K hK => ?_)); go_simp; refine ⟨Grew.of_alloc _, hK _ _ ?_⟩; clear hK K)
          | ((with_reducible refine wpD_g (fun K hK => ?_)); go_simp; refine ⟨Below.refl _ _, hK _ _ ?_⟩; clear hK K))
        with_reducible refine wpD_nil ?_
        have hBw3 : Below w2.heap.size w2 w2.drew := bl_dr (bl_refl _)
        generalize w2.drew = w3 at hBw3 ⊢
        replace b0 := (hBw3.cell (p := ⟨bB, oB + k * 3, none⟩) hbB).trans b0
        replace b1 := (hBw3.cell (p := ⟨bB, oB + k * 3 + 1, none⟩) hbB).trans b1
        replace b2 := (hBw3.cell (p := ⟨bB, oB + k * 3 + 2, none⟩) hbB).trans b2
        replace hbB := Nat.lt_of_lt_of_le hbB hBw3.size
        replace d0 := (hBw3.cell (p := ⟨w.heap.size + 1, 0, none⟩) hsz).trans d0
        replace df := (hBw3.frozen (p := ⟨w.heap.size + 1, 0, none⟩) hsz).trans df
        replace r0 := (hBw3.cell (p := ⟨w.heap.size, 0, none⟩) l0).trans r0
        replace rf := (hBw3.frozen (p := ⟨w.heap.size, 0, none⟩) l0).trans rf
        replace ga := (hBw3.cell (p := ⟨pa, 0, none⟩) la).trans ga
        replace gb := (hBw3.cell (p := ⟨pb, 0, none⟩) lb).trans gb
        replace hO := Lib.hid (ownsRow_below hO.out hBw3)
        replace hbw := Lib.hid (hbw.out.trans (Below.mono hBw3 hsw))
        replace hsz := Nat.lt_of_lt_of_le hsz hBw3.size
        replace la := Nat.lt_of_lt_of_le la hBw3.size
        replace lb := Nat.lt_of_lt_of_le lb hBw3.size
        replace l0 := Nat.lt_of_lt_of_le l0 hBw3.size
        replace hsw := Nat.le_trans hsw hBw3.size
        clear hBw3
        go_wp2
        refine wp_region_ord [(0, .q), (1, .q), (2, .q), (3, .q), (4, .q), (5, .q), (6, .q), (7, .q), (8, .q), (9, .g), (10, .b), (11, .q), (12, .b)] (by kernel_rfl) (by kernel_rfl) ?_
        simp only [pick, List.filterMap_cons, List.filterMap_nil, List.getElem?_toArray, List.getElem?_cons_zero, List.getElem?_cons_succ, Option.map_some]
        repeat (first
          | ((with_reducible refine wpD_p (fun K hK => ?_)); go_simp; refine hK _ ?_; clear hK K)
          | ((with_reducible refine wpD_q (fun K hK => ?_)); go_simp; (first | refine hK _ ?_ | (go_bits; refine hK _ ?_) | (go_bits; go_simp; refine hK _ ?_)); clear hK K)
          | ((with_reducible refine wpD_g (fun K hK => ?_)); go_simp; refine hK _ _ ?_; clear hK K)
          | ((with_reducible refine wpD_g (fun K hK => ?_)); go_simp; refine ⟨Grew.of_alloc _, hK _ _ ?_⟩; clear hK K))
        refine wpD_append rfl _ _ 33 rfl (w.heap.size + 2) 127 i2 (.agg #[.int .i64 0, .int .i64 0, .int .i64 0]) 3 24 Tryz.underlying33 hi2 hz02 hz12 hz22 rfl (by decide) (.slice A3 (i + k) c3) (i + k) (plCells L) (by go_simp) (ownsRow_below hO.out (by exact bel_)) ⟨w3.heap.size, 0, none⟩ 1 1 [.int .i64 b.x, .int .i64 b.y, .int .i64 b.t] (by go_simp) rfl ?hnews (fun x hx => by simp at hx; rcases hx with rfl | rfl | rfl <;> rfl) (by unfold maxLen; omega) (by omega) (by simp; omega) ?_
        case hnews =>
          have := cell_three_new w3 (.int .i64 b.x) (.int .i64 b.y) (.int .i64 b.t) 127
          simpa using this
        intro v5 w5 hown5 hgrow5
        obtain ⟨A5, c5, rfl⟩ := ownsRow_form hown5
        have hT : Below w3.heap.size w3 (w3.alloc (Obj.cells #[.int .i64 b.x, .int .i64 b.y, .int .i64 b.t] 127)).drew := bl_dr (bl_al (bl_refl _) _)
        have hbX : Below (w.heap.size + 2) w3 w5 := (hT.mono (by omega)).grown hgrow5 (by simp; omega) (fun g e => (hO.out.lt g e).1)
        have m0 := (hbX.cell (p := ⟨w.heap.size, 0, none⟩) (by simp)).trans r0
        have m1 := (hbX.frozen (p := ⟨w.heap.size, 0, none⟩) (by simp)).trans rf
        have m2 := (hbX.cell (p := ⟨w.heap.size + 1, 0, none⟩) (by simp)).trans d0
        have mf := (hbX.frozen (p := ⟨w.heap.size + 1, 0, none⟩) (by simp)).trans df
        have l5 : w.heap.size + 1 < w5.heap.size := by have := hbX.size; omega
        have l50 : w.heap.size < w5.heap.size := by omega
        have hown5H := Lib.hid hown5
        have hbXH := Lib.hid (hbw.out.trans (hbX.mono (by omega)))
        clear hown5 hgrow5 hbX hT r0 rf d0 df
        repeat (first | ((with_reducible refine wpD_p (fun K hK => ?_)); go_simp; refine hK _ ?_; clear hK K) | ((with_reducible refine wpD_q (fun K hK => ?_)); go_simp; (first | refine hK _ ?_ | (go_bits; refine hK _ ?_) | (go_bits; go_simp; refine hK _ ?_)); clear hK K))
        with_reducible refine wpD_b (fun K hK => ?_)
        go_simp
        refine hK _ _ ?_
        clear hK K
        with_reducible refine wpD_nil ?_
        go_wp2
        go_roundg (i + m - (i + k + 1))
        case measure => omega
        case rel =>
          refine ⟨i, k + 1, L ++ [b], A5, c5, by omega, by omega, by omega, by go_num, by go_num, hnx, Lib.hid (by rw [List.length_append, hLl.out]; simp; omega), Lib.hid ?_, Lib.hid (hbXH.out.setCell (p := ⟨w.heap.size + 1, 0, none⟩) (by simp) _), by simp; omega, by go_simp, by go_simp, ?_, by go_simp⟩
          · rw [show i + (k + 1) = i + k + 1 by omega, plCells_snoc]
            exact ownsRow_setCell_below hown5H.out (by simp) _
          · rw [show i + (k + 1) = i + k + 1 by omega]; go_simp
      · obtain rfl : k = m := by omega
        have hLZ : L = Z := by
          have := hmg.out
          rw [List.drop_eq_nil_of_le (by omega), List.drop_eq_nil_of_le (by omega)] at this
          simpa using this
        have hZl : Z.length = i + k := by rw [← hLZ]; exact hLl.out
        rw [hLZ] at hO
        have hZlH := Lib.hid hZl
        clear hZl hLZ
        go_wp2
        refine bodyPost_ret (v := .tuple #[.agg #[.slice A3 (i + k) c3], .bool true]) (by simp only [results, Tryz.results66]; go_simp) rfl ?_
        refine ⟨A3, c3, by rw [hZlH.out], ?_, hbw.out.setCell (p := ⟨w.heap.size, 0, none⟩) (by simp) _⟩
        rw [hZlH.out]
        exact ownsRow_baseV (ownsRow_setCell_below hO.out (by simp) _) (by omega)
end Go.Proofs.YtedihnokcpnikaaGreat
/- Walks: Combine, the reference. -/


namespace Go.Proofs.YtedihnokcpnikaaGreat
open Go.RowKit Go.Shelf
attribute [local go_sem] BelowBy.cell BelowBy.cell_drew stillUpon givesUpon BelowBy.cell_drew2 BelowBy.cell_drew3

theorem sTempH_at {t : Int} {v : Bool} {w : World} (h : inB t 1 16 = v) : Calls Tryz.prog 34 #[.int .i64 t] w fun e w' => e = .returned (.bool v) ∧ w = w' := by
  subst h
  go_enter Tryz.func34, Tryz.ntmps34
  go_wp2_with (go_at_call 63; refine (l00In_any _ _ _ _).mono ?_; rintro e _ ⟨rfl, rfl⟩)
  go_ret
  exact ⟨ret_bool rfl, rfl⟩
set_option maxRecDepth 100000 in
set_option maxHeartbeats 2000000 in
theorem l29Normal_any {gs : List Gl} {ts : List Ti} (p : Nat) (zs : List Pl) (e : Pl) (w : World) (ha : AsmAt w p 0 zs) (hV : Valid gs ts zs) (he : zs[0]? = some e) :
    Calls Tryz.prog 67 #[.pointer (some ⟨p, 0, none⟩)] w (MvOwn w (-e.x) (-e.y) zs) := by
  obtain ⟨hlt, ⟨A, n, c, h1, h2⟩⟩ := id ha
  have hl := h2.len
  have hn0 : 0 < n := by have := lt_of_get he; omega
  have hnI : (0 : Int) < (n : Int) := by omega
  have hn5 : zs.length ≤ 500 := hV.len
  have hpt := Lib.hid hV.pt
  obtain ⟨ex, ey⟩ := hV.pt 0 e he
  obtain ⟨b, o, rfl, hb, hc⟩ := h2.ptr hn0
  obtain ⟨c0, c1, c2⟩ := hc 0 e he
  simp only [Nat.zero_mul, Nat.add_zero] at c0 c1 c2
  have haH := Lib.hid ha
  have hlH := Lib.hid hl
  clear ha h2 hc hV he hl
  go_enter Tryz.func67, Tryz.ntmps67
  go_wp2_with fail
  refine (l03Move_own p zs (-e.x) (-e.y) _ (haH.out.below (by exact bel_)) (by omega) hpt.out (by omega) (by omega)).mono ?_
  rintro e' w1 ⟨B, m, c', rfl, hrow, hb1⟩
  have r0 : w1.cell? ⟨w.heap.size, 0, none⟩ = some (.slice none 0 0) := (hb1.cell (p := ⟨w.heap.size, 0, none⟩) (by simp; omega)).trans (by go_simp)
  have rf : w1.frozen? ⟨w.heap.size, 0, none⟩ = false := (hb1.frozen (p := ⟨w.heap.size, 0, none⟩) (by simp; omega)).trans (by go_simp)
  have hs1 : w.heap.size + 1 < w1.heap.size ∨ w.heap.size + 1 ≤ w1.heap.size := Or.inr (by have := hb1.size; simp at this; omega)
  have hs2 : w.heap.size < w1.heap.size := by have := hb1.size; simp at this; omega
  have hbw1 := Lib.hid (show Below w.heap.size w w1 by exact bel_)
  obtain ⟨v, hv⟩ : ∃ v, mvOk (-e.x) (-e.y) zs = v := ⟨_, rfl⟩
  rw [hv] at hrow ⊢
  have hvH := Lib.hid hv
  have hrowH := Lib.hid hrow
  clear hb1 hrow hv
  go_wp2
  refine bodyPost_ret (v := .tuple #[.agg #[.slice B m c'], .bool v]) (by simp only [results, Tryz.results67]; go_simp) rfl ?_
  refine ⟨B, m, c', by rw [hvH.out], fun ho => ?_, hbw1.out.setCell (p := ⟨w.heap.size, 0, none⟩) (by simp) _⟩
  obtain ⟨rfl, hrw⟩ := hrowH.out (hvH.out.symm.trans ho)
  refine ⟨rfl, ownsRow_baseU (base := w.heap.size + 1) (ownsRow_setCell_below ?_ (by simp) _) (by omega)⟩
  exact ownsRow_baseU hrw (by simp)
theorem l29Moved_at {p : Nat} {xs : List Pl} {dx dy : Int} {v : Bool} {w : World} (ha : AsmAt w p 0 xs) (hn : xs.length ≤ 100000) (hxy : ∀ (k : Nat) (e : Pl), xs[k]? = some e → (-60 ≤ e.x ∧ e.x ≤ 60) ∧ (-60 ≤ e.y ∧ e.y ≤ 60)) (hv : okM dx dy xs = v) :
    Calls Tryz.prog 64 #[.pointer (some ⟨p, 0, none⟩), .agg #[.int .i64 dx, .int .i64 dy]] w fun e w' => ∃ B m c', e = .returned (.tuple #[.agg #[.slice B m c'], .bool v]) ∧ (v = true → m = xs.length ∧ RdSl 3 RPl w' B m (mvL dx dy xs)) ∧ Below w.heap.size w w' := by
  subst hv; exact l29Moved_any p xs dx dy w ha hn hxy
theorem l29Strength_at {p pa pc : Nat} {gs : List Gl} {ts : List Ti} {xs ms : List Pl} {s k : Int} {w : World} (h : SAt w p 0 pa 0 gs ts xs) (hc : AsmAt w pc 0 ms) (hV : Valid gs ts xs) (hml : ms.length ≤ 500)
    (hpt : ∀ (k : Nat) (e : Pl), ms[k]? = some e → (-60 ≤ e.x ∧ e.x ≤ 60) ∧ (-60 ≤ e.y ∧ e.y ≤ 60) ∧ ∃ t : Nat, e.t = t ∧ t < ts.length) (hj : joinE gs ts xs ms = (s, k)) :
    Calls Tryz.prog 65 #[.pointer (some ⟨p, 0, none⟩), .pointer (some ⟨pa, 0, none⟩), .pointer (some ⟨pc, 0, none⟩)] w fun e w' => e = .returned (.tuple #[.int .i64 s, .int .i64 k]) ∧ Below w.heap.size w w' := by
  have := l29Strength_any p pa pc gs ts xs ms w h hc hV hml hpt
  rw [hj] at this
  exact this
theorem joinM_split {gs : List Gl} {ts : List Ti} {xs ys : List Pl} {dx dy : Int} : (okM dx dy ys = false → joinM gs ts xs ys dx dy = (0, 2)) ∧ (okM dx dy ys = true → joinM gs ts xs ys dx dy = joinE gs ts xs (mvL dx dy ys) ∧ mvOk dx dy ys = true) := by
  unfold okM joinM
  cases hx : inB dx (-120) 120
  · simp
  · cases hy : inB dy (-120) 120
    · simp
    · cases hm : mvOk dx dy ys
      · simp
      · simp
set_option maxRecDepth 100000 in
set_option maxHeartbeats 4000000 in
theorem l29Combine_any (p pa pb : Nat) (gs : List Gl) (ts : List Ti) (xs ys : List Pl) (t dx dy : Int) (w : World) (hS : SAt w p 0 pa 0 gs ts xs) (hb : AsmAt w pb 0 ys) (hV : Valid gs ts xs) (hV2 : Valid gs ts ys) (ht : 1 ≤ t) :
    Calls Tryz.prog 35 #[.pointer (some ⟨p, 0, none⟩), .int .i64 t, .pointer (some ⟨pa, 0, none⟩), .pointer (some ⟨pb, 0, none⟩), .agg #[.int .i64 dx, .int .i64 dy]] w (AsmRes w (combE gs ts xs ys t dx dy)) := by
  have hl5 := hV.len
  have hlb5 := hV2.len
  have hSH := Lib.hid hS
  have hbH := Lib.hid hb
  have hVH := Lib.hid hV
  have hpt2 := Lib.hid hV2.pt
  have hsp := joinM_split (gs := gs) (ts := ts) (xs := xs) (ys := ys) (dx := dx) (dy := dy)
  cases ho : okM dx dy ys
  · have hrH := Lib.hid (combE_code (T := t) (hsp.1 ho) (by decide))
    have hoH := Lib.hid ho
    clear hS hb hV hV2 hsp ho
    go_enter Tryz.func35, Tryz.ntmps35
    go_wp2_with fail
    refine (l29Moved_at (hbH.out.below (by exact bel_)) (by omega) hpt2.out hoH.out).mono ?_
    rintro e w1 ⟨B, m', c', rfl, hrd, hb1⟩
    have hb10 := Lib.hid (show Below w.heap.size w w1 by exact bel_)
    obtain ⟨chb1, fhb1, shb1, thb1⟩ := bcell hb1
    have s1 := shb1 (w.heap.size + 1) (by go_simp)
    clear hrd
    go_wp2
    refine bodyPost_ret (v := .tuple #[.agg #[.slice none 0 0], .int .i64 2]) (by simp only [results, Tryz.results35]; go_simp) rfl ?_
    exact AsmRes.lift (base := w.heap.size) hrH.out rfl (World.ownsRow_nil _ _ _ _) (Nat.le_refl _) ((hb10.out.setCell (p := ⟨w.heap.size + 1, 0, none⟩) (by simp) _).alloc (by simp; omega) _)
  · obtain ⟨hje, hmv⟩ := hsp.2 ho
    obtain ⟨s, k, hj⟩ : ∃ s k, joinE gs ts xs (mvL dx dy ys) = (s, k) := ⟨_, _, rfl⟩
    have hjm := hje.trans hj
    have hml := mvL_len dx dy ys
    have hptm := Lib.hid (fun (k : Nat) (e : Pl) (h : (mvL dx dy ys)[k]? = some e) => mv_pt hV2 hmv h)
    have hoH := Lib.hid ho
    have hjH := Lib.hid hj
    by_cases hk : k = 0
    · subst hk
      by_cases hst : s < t
      · have hrH := Lib.hid (combE_weak hjm hst)
        clear hS hb hV hV2 hsp ho hje hmv hj hjm
        go_enter Tryz.func35, Tryz.ntmps35
        go_wp2_with fail
        refine (l29Moved_at (hbH.out.below (by exact bel_)) (by omega) hpt2.out hoH.out).mono ?_
        rintro e w1 ⟨B, m', c', rfl, hrd, hb1⟩
        obtain ⟨rfl, hrd⟩ := hrd rfl
        have hb10 := Lib.hid (show Below w.heap.size w w1 by exact bel_)
        have hrdH := Lib.hid hrd
        have s1 : w.heap.size + 1 < w1.heap.size := by have := hb1.size; simp at this; omega
        have y1 : w1.cell? ⟨w.heap.size + 1, 0, none⟩ = some (.slice none 0 0) := (hb1.cell (p := ⟨w.heap.size + 1, 0, none⟩) (by simp)).trans (by go_simp)
        have k1 : w1.frozen? ⟨w.heap.size + 1, 0, none⟩ = false := (hb1.frozen (p := ⟨w.heap.size + 1, 0, none⟩) (by simp)).trans (by go_simp)
        clear hrd hb1
        go_wp2_with fail
        refine (l29Strength_at (hSH.out.below (hb10.out.trans (show Below w.heap.size w1 _ from Below.mono (show Below w1.heap.size w1 _ by exact bel_) (by omega)))) ⟨by simp, B, ys.length, c', by go_simp, hrdH.out.below RPl.stable (by exact bel_)⟩ hVH.out (by omega) hptm.out hjH.out).mono ?_
        rintro e w2 ⟨rfl, hb2⟩
        have hb20 := Lib.hid (hb10.out.trans (show Below w.heap.size w1 w2 from Below.mono (show Below w1.heap.size w1 w2 by exact bel_) (by omega)))
        have s2 : w.heap.size + 1 < w2.heap.size := by have := hb2.size; simp at this; omega
        have y2 : w2.cell? ⟨w.heap.size + 1, 0, none⟩ = some (.slice none 0 0) := (hb2.cell (p := ⟨w.heap.size + 1, 0, none⟩) (by simp; omega)).trans (by go_simp)
        have k2 : w2.frozen? ⟨w.heap.size + 1, 0, none⟩ = false := (hb2.frozen (p := ⟨w.heap.size + 1, 0, none⟩) (by simp; omega)).trans (by go_simp)
        clear hb2 y1 k1
        go_wp2
        refine bodyPost_ret (v := .tuple #[.agg #[.slice none 0 0], .int .i64 5]) (by simp only [results, Tryz.results35]; go_simp) rfl ?_
        exact AsmRes.lift (base := w.heap.size) hrH.out rfl (World.ownsRow_nil _ _ _ _) (Nat.le_refl _) (hb20.out.setCell (p := ⟨w.heap.size + 1, 0, none⟩) (by simp) _)
      · obtain ⟨_, _, _, h2, hsum⟩ := joinM_ok hV hV2 hjm
        obtain ⟨e0, he0⟩ := join_first (xs := xs) ht hst hsum
        have hfu : Hid (500 < xs.length + ys.length → (([], 4) : List Pl × Int) = combE gs ts xs ys t dx dy) := Lib.hid (fun h => combE_full hjm hst h)
        have hnm : Hid (¬ 500 < xs.length + ys.length → normE (sortPl (xs ++ mvL dx dy ys)) = combE gs ts xs ys t dx dy) := Lib.hid (fun h => combE_norm hjm hst h)
        have hVz : Hid (¬ 500 < xs.length + ys.length → Valid gs ts (sortPl (xs ++ mvL dx dy ys))) := Lib.hid (fun h => h2.valid (by omega))
        have he0H := Lib.hid he0
        have h2H := Lib.hid h2
        obtain ⟨hlta, ⟨A, q, ca, ha1, ha2⟩⟩ := hS.a
        obtain ⟨hltb, ⟨C, nb, cb, hb1', hb2'⟩⟩ := hb
        have hq := ha2.len
        have hnb := hb2'.len
        have ha1H := Lib.hid ha1
        have hb1H := Lib.hid hb1'
        obtain ⟨ms, hms⟩ : ∃ ms, mvL dx dy ys = ms := ⟨_, rfl⟩
        rw [hms] at hml hptm hjH hnm hVz he0H h2H
        have hmsH := Lib.hid hms
        have hzl : (sortPl (xs ++ ms)).length = q + nb := by rw [sortPl_len, List.length_append, hml, hq, hnb]
        have hzlH := Lib.hid hzl
        have hq5 : q ≤ 500 := by omega
        have hnb5 : nb ≤ 500 := by omega
        clear hS hV hV2 hsp ho hje hmv hj hjm h2 hsum he0 ha1 ha2 hb1' hb2' hms hzl
        go_enter Tryz.func35, Tryz.ntmps35
        go_wp2_with fail
        refine (l29Moved_at (hbH.out.below (by exact bel_)) (by omega) hpt2.out hoH.out).mono ?_
        rintro e w1 ⟨B, m', c', rfl, hrd, hb1⟩
        obtain ⟨rfl, hrd⟩ := hrd rfl
        rw [hmsH.out] at hrd
        have hb10 := Lib.hid (show Below w.heap.size w w1 by exact bel_)
        have hrdH := Lib.hid hrd
        have s1 : w.heap.size + 1 < w1.heap.size := by have := hb1.size; simp at this; omega
        have y1 : w1.cell? ⟨w.heap.size + 1, 0, none⟩ = some (.slice none 0 0) := (hb1.cell (p := ⟨w.heap.size + 1, 0, none⟩) (by simp)).trans (by go_simp)
        have k1 : w1.frozen? ⟨w.heap.size + 1, 0, none⟩ = false := (hb1.frozen (p := ⟨w.heap.size + 1, 0, none⟩) (by simp)).trans (by go_simp)
        clear hrd hb1
        go_wp2_with fail
        refine (l29Strength_at (hSH.out.below (hb10.out.trans (show Below w.heap.size w1 _ from Below.mono (show Below w1.heap.size w1 _ by exact bel_) (by omega)))) ⟨by simp, B, ys.length, c', by go_simp, hrdH.out.below RPl.stable (by exact bel_)⟩ hVH.out (by omega) hptm.out hjH.out).mono ?_
        rintro e w2 ⟨rfl, hb2⟩
        have hB12 : Below w1.heap.size w1 w2 := by exact bel_
        have hb20 := Lib.hid (hb10.out.trans (show Below w.heap.size w1 w2 from Below.mono hB12 (by omega)))
        have s20 : w1.heap.size < w2.heap.size := Nat.lt_of_lt_of_le (by simp) hb2.size
        have s2 : w.heap.size + 1 < w2.heap.size := by omega
        have y2 : w2.cell? ⟨w.heap.size + 1, 0, none⟩ = some (.slice none 0 0) := (hb2.cell (p := ⟨w.heap.size + 1, 0, none⟩) (by simp; omega)).trans (by go_simp)
        have k2 : w2.frozen? ⟨w.heap.size + 1, 0, none⟩ = false := (hb2.frozen (p := ⟨w.heap.size + 1, 0, none⟩) (by simp; omega)).trans (by go_simp)
        have hmat : Hid (AsmAt w2 w1.heap.size 0 ms) := Lib.hid ⟨s20, B, ys.length, c', (hb2.cell (p := ⟨w1.heap.size, 0, none⟩) (by simp)).trans (by go_simp), hrdH.out.below RPl.stable hB12⟩
        have pa2 : w2.cell? ⟨pa, 0, none⟩ = some (.slice A q ca) := (hb20.out.cell (p := ⟨pa, 0, none⟩) hlta).trans ha1H.out
        have pb2 : w2.cell? ⟨pb, 0, none⟩ = some (.slice C nb cb) := (hb20.out.cell (p := ⟨pb, 0, none⟩) hltb).trans hb1H.out
        have la2 : pa < w2.heap.size := by omega
        have lb2 : pb < w2.heap.size := by omega
        clear hb2 y1 k1 hB12
        have hwr : IntKind.i64.wrap ((q : Int) + (nb : Int)) = (q : Int) + (nb : Int) := wrap_in (by omega) (by omega)
        by_cases hbig : 500 < q + nb
        · have hbigI : (500 : Int) < (q : Int) + (nb : Int) := by omega
          go_wp2
          refine wp_region_ord [(0, .q), (1, .q), (2, .q), (3, .q), (4, .q), (5, .q), (6, .q), (7, .q), (8, .q), (9, .q), (10, .q), (11, .q)] (by kernel_rfl) (by kernel_rfl) ?_
          simp only [pick, List.filterMap_cons, List.filterMap_nil, List.getElem?_toArray, List.getElem?_cons_zero, List.getElem?_cons_succ, Option.map_some]
          repeat (first
            | ((with_reducible refine wpD_p (fun K hK => ?_)); go_simp; refine hK _ ?_; clear hK K)
            | ((with_reducible refine wpD_q (fun K hK => ?_)); go_simp; (first | refine hK _ ?_ | (go_bits; refine hK _ ?_) | (go_bits; go_simp; refine hK _ ?_)); clear hK K)
            | ((with_reducible refine wpD_g (fun K hK => ?_)); go_simp; refine hK _ _ ?_; clear hK K)
            | ((with_reducible refine wpD_g (fun K hK => ?_)); go_simp; refine ⟨Grew.of_alloc _, hK _ _ ?_⟩; clear hK K))
          with_reducible refine wpD_nil ?_
          go_wp2
          refine bodyPost_ret (v := .tuple #[.agg #[.slice none 0 0], .int .i64 4]) (by simp only [results, Tryz.results35]; go_simp) rfl ?_
          exact AsmRes.lift (base := w.heap.size) (hfu.out (by omega)) rfl (World.ownsRow_nil _ _ _ _) (Nat.le_refl _) ((hb20.out.trans (show Below w.heap.size w2 w2.drew from (Below.refl _ _).drew)).setCell (p := ⟨w.heap.size + 1, 0, none⟩) (by simp) _)
        · have hbigI : ¬ (500 : Int) < (q : Int) + (nb : Int) := by omega
          go_wp2
          refine wp_region_ord [(0, .q), (1, .q), (2, .q), (3, .q), (4, .q), (5, .q), (6, .q), (7, .q), (8, .q), (9, .q), (10, .q), (11, .q)] (by kernel_rfl) (by kernel_rfl) ?_
          simp only [pick, List.filterMap_cons, List.filterMap_nil, List.getElem?_toArray, List.getElem?_cons_zero, List.getElem?_cons_succ, Option.map_some]
          repeat (first
            | ((with_reducible refine wpD_p (fun K hK => ?_)); go_simp; refine hK _ ?_; clear hK K)
            | ((with_reducible refine wpD_q (fun K hK => ?_)); go_simp; (first | refine hK _ ?_ | (go_bits; refine hK _ ?_) | (go_bits; go_simp; refine hK _ ?_)); clear hK K)
            | ((with_reducible refine wpD_g (fun K hK => ?_)); go_simp; refine hK _ _ ?_; clear hK K)
            | ((with_reducible refine wpD_g (fun K hK => ?_)); go_simp; refine ⟨Grew.of_alloc _, hK _ _ ?_⟩; clear hK K))
          with_reducible refine wpD_nil ?_
          have hBd : Below w2.heap.size w2 w2.drew := bl_dr (bl_refl _)
          generalize w2.drew = w3 at hBd ⊢
          have hb30 := Lib.hid (hb20.out.trans (show Below w.heap.size w2 w3 from Below.mono hBd (by omega)))
          have hmat3 := Lib.hid (hmat.out.below hBd)
          have s3 : w.heap.size + 1 < w3.heap.size := by have := hBd.size; omega
          replace y2 := (hBd.cell (p := ⟨w.heap.size + 1, 0, none⟩) s2).trans y2
          replace k2 := (hBd.frozen (p := ⟨w.heap.size + 1, 0, none⟩) s2).trans k2
          clear hBd pa2 pb2 la2 lb2 hmat hb20
          go_wp2_with fail
          refine (l03Join_any pa w1.heap.size gs ts xs ms _ (hSH.out.below hb30.out).a hmat3.out h2H.out (by omega)).mono ?_
          rintro e w4 ⟨D, c4, rfl, hown4, hb4⟩
          rw [hzlH.out] at hown4 ⊢
          have hb40 := Lib.hid (hb30.out.trans (show Below w.heap.size w3 w4 from Below.mono hb4 (by omega)))
          have s4 : w.heap.size + 1 < w4.heap.size := by have := hb4.size; omega
          replace y2 := (hb4.cell (p := ⟨w.heap.size + 1, 0, none⟩) s3).trans y2
          replace k2 := (hb4.frozen (p := ⟨w.heap.size + 1, 0, none⟩) s3).trans k2
          have hrd4 : RdSl 3 RPl w4 D (q + nb) (sortPl (xs ++ ms)) := rdPl hown4 hzlH.out.symm
          have hrd4H := Lib.hid hrd4
          clear hb4 hown4 hrd4
          go_wp2_with fail
          refine (l29Normal_any w4.heap.size (sortPl (xs ++ ms)) e0 _ ⟨by simp, D, q + nb, c4, by go_simp, hrd4H.out.below RPl.stable (by exact bel_)⟩ (hVz.out (by omega)) he0H.out).mono ?_
          rintro e w5 ⟨E, m5, c5, rfl, hrow, hb5⟩
          have hB45 : Below w4.heap.size w4 w5 := by exact bel_
          have hb50 := Lib.hid (hb40.out.trans (show Below w.heap.size w4 w5 from Below.mono hB45 (by omega)))
          have s5 : w.heap.size + 1 < w5.heap.size := by have := hB45.size; omega
          have sge : w.heap.size + 2 ≤ (w4.alloc (Obj.cells #[.slice D (q + nb) c4] 35)).heap.size := by simp; omega
          replace y2 := (hB45.cell (p := ⟨w.heap.size + 1, 0, none⟩) s4).trans y2
          replace k2 := (hB45.frozen (p := ⟨w.heap.size + 1, 0, none⟩) s4).trans k2
          have hnm2 := Lib.hid (hnm.out (by omega))
          clear hb5 hB45
          cases hm : mvOk (-e0.x) (-e0.y) (sortPl (xs ++ ms))
          · have hrH := Lib.hid ((normE_no he0H.out hm).trans hnm2.out)
            have hmH := Lib.hid hm
            clear hrow hm
            go_wp2
            refine bodyPost_ret (v := .tuple #[.agg #[.slice none 0 0], .int .i64 2]) (by simp only [results, Tryz.results35]; go_simp) rfl ?_
            exact AsmRes.lift (base := w.heap.size) hrH.out rfl (World.ownsRow_nil _ _ _ _) (Nat.le_refl _) ((hb50.out.setCell (p := ⟨w.heap.size + 1, 0, none⟩) (by simp) _).alloc (by simp; omega) _)
          · have hrH := Lib.hid ((normE_ok he0H.out hm).trans hnm2.out)
            obtain ⟨rfl, hrow⟩ := hrow hm
            have hrowH := Lib.hid (ownsRow_baseU hrow sge)
            have hz2 : (sortPl (xs ++ ms)).length = q + nb := hzlH.out
            rw [hz2] at hrowH ⊢
            have hz3 : (mvL (-e0.x) (-e0.y) (sortPl (xs ++ ms))).length = q + nb := by rw [mvL_len]; exact hz2
            have hz3H := Lib.hid hz3
            clear hrow hm hz2 hz3
            go_wp2
            refine bodyPost_ret (v := .tuple #[.agg #[.slice E (q + nb) c5], .int .i64 0]) (by simp only [results, Tryz.results35]; go_simp) rfl ?_
            exact AsmRes.lift (base := w.heap.size + 2) hrH.out hz3H.out ((ownsRow_setCell_below hrowH.out (by simp) _).alloc _) (by omega) ((hb50.out.setCell (p := ⟨w.heap.size + 1, 0, none⟩) (by simp) _).alloc (by simp; omega) _)
    · have hrH := Lib.hid (combE_code (T := t) hjm hk)
      have hk1 : (k != 0) = true := by simpa using hk
      clear hS hb hV hV2 hsp ho hje hmv hj hjm
      go_enter Tryz.func35, Tryz.ntmps35
      go_wp2_with fail
      refine (l29Moved_at (hbH.out.below (by exact bel_)) (by omega) hpt2.out hoH.out).mono ?_
      rintro e w1 ⟨B, m', c', rfl, hrd, hb1⟩
      obtain ⟨rfl, hrd⟩ := hrd rfl
      have hb10 := Lib.hid (show Below w.heap.size w w1 by exact bel_)
      have hrdH := Lib.hid hrd
      have s1 : w.heap.size + 1 < w1.heap.size := by have := hb1.size; simp at this; omega
      have y1 : w1.cell? ⟨w.heap.size + 1, 0, none⟩ = some (.slice none 0 0) := (hb1.cell (p := ⟨w.heap.size + 1, 0, none⟩) (by simp)).trans (by go_simp)
      have k1 : w1.frozen? ⟨w.heap.size + 1, 0, none⟩ = false := (hb1.frozen (p := ⟨w.heap.size + 1, 0, none⟩) (by simp)).trans (by go_simp)
      clear hrd hb1
      go_wp2_with fail
      refine (l29Strength_at (hSH.out.below (hb10.out.trans (show Below w.heap.size w1 _ from Below.mono (show Below w1.heap.size w1 _ by exact bel_) (by omega)))) ⟨by simp, B, ys.length, c', by go_simp, hrdH.out.below RPl.stable (by exact bel_)⟩ hVH.out (by omega) hptm.out hjH.out).mono ?_
      rintro e w2 ⟨rfl, hb2⟩
      have hb20 := Lib.hid (hb10.out.trans (show Below w.heap.size w1 w2 from Below.mono (show Below w1.heap.size w1 w2 by exact bel_) (by omega)))
      have s2 : w.heap.size + 1 < w2.heap.size := by have := hb2.size; simp at this; omega
      have y2 : w2.cell? ⟨w.heap.size + 1, 0, none⟩ = some (.slice none 0 0) := (hb2.cell (p := ⟨w.heap.size + 1, 0, none⟩) (by simp; omega)).trans (by go_simp)
      have k2 : w2.frozen? ⟨w.heap.size + 1, 0, none⟩ = false := (hb2.frozen (p := ⟨w.heap.size + 1, 0, none⟩) (by simp; omega)).trans (by go_simp)
      clear hb2 y1 k1
      go_wp2
      refine bodyPost_ret (v := .tuple #[.agg #[.slice none 0 0], .int .i64 k]) (by simp only [results, Tryz.results35]; go_simp) rfl ?_
      exact AsmRes.lift (base := w.heap.size) hrH.out rfl (World.ownsRow_nil _ _ _ _) (Nat.le_refl _) (hb20.out.setCell (p := ⟨w.heap.size + 1, 0, none⟩) (by simp) _)
theorem normE_len (zs : List Pl) : (normE zs).1.length ≤ zs.length := by
  cases zs with
  | nil => simp [normE]
  | cons e l =>
    show (if mvOk (-e.x) (-e.y) (e :: l) = true then (mvL (-e.x) (-e.y) (e :: l), (0 : Int)) else ([], 2)).1.length ≤ _
    split
    · rw [mvL_len]; exact Nat.le_refl _
    · simp
theorem combE_len (gs : List Gl) (ts : List Ti) (xs ys : List Pl) (t dx dy : Int) : (combE gs ts xs ys t dx dy).1.length ≤ 500 := by
  unfold combE
  split
  · split
    · simp
    · split
      · simp
      · have := normE_len (sortPl (xs ++ mvL dx dy ys))
        rw [sortPl_len, List.length_append, mvL_len] at this
        omega
  · simp
theorem combR_len (gs : List Gl) (ts : List Ti) (xs ys : List Pl) (t dx dy : Int) : (combR gs ts xs ys t dx dy).1.length ≤ 1073741824 := by
  unfold combR
  split
  · simp
  · split
    · simp
    · exact Nat.le_trans (combE_len gs ts xs ys t dx dy) (by decide)
theorem l29Asked_at {p pa pb : Nat} {gs : List Gl} {ts : List Ti} {xs ys : List Pl} {v : Bool} {w : World} (h : SAt w p 0 pa 0 gs ts xs) (hb : AsmAt w pb 0 ys) (hq2 : ys.length ≤ 1073741824) (hv : askJ gs ts xs ys = v) :
    Calls Tryz.prog 33 #[.pointer (some ⟨p, 0, none⟩), .pointer (some ⟨pa, 0, none⟩), .pointer (some ⟨pb, 0, none⟩)] w fun e w' => e = .returned (.int .i64 (codeB v)) ∧ Below w.heap.size w w' := by
  subst hv; exact l29Asked_any p pa pb gs ts xs ys w h hb hq2
set_option maxRecDepth 100000 in
set_option maxHeartbeats 4000000 in
theorem sCombine_any (G T A C : Option Addr) (n cg m ct q ca nb cb : Nat) (gs : List Gl) (ts : List Ti) (xs ys : List Pl) (t dx dy : Int) (w : World) (hS : SA w G n T m A q gs ts xs) (hS2 : SA w G n T m C nb gs ts ys) :
    Calls Tryz.prog 8 #[.agg #[.slice G n cg, .slice T m ct], .int .i64 t, .agg #[.slice A q ca], .agg #[.slice C nb cb], .agg #[.int .i64 dx, .int .i64 dy]] w (AsmRes w (combR gs ts xs ys t dx dy)) := by
  have hlb := hS2.A.len
  have hq2 := hS2.q
  have h0 := Lib.hid (hS.box cg ct ca)
  have hb0 : Hid (AsmAt (((w.alloc (Obj.cells #[.slice G n cg, .slice T m ct] 41)).alloc (Obj.cells #[.slice A q ca] 35)).alloc (Obj.cells #[.slice C nb cb] 35)) (w.heap.size + 1 + 1) 0 ys) :=
    Lib.hid ⟨by simp, C, nb, cb, by go_simp, hS2.A.below RPl.stable (by exact bel_)⟩
  clear hS hS2
  have hc1 := codeB_true
  have hc2 := codeB_false
  cases hk : askJ gs ts xs ys
  · have hrH := Lib.hid (show (([], 1) : List Pl × Int) = combR gs ts xs ys t dx dy by unfold combR; rw [if_pos hk])
    have hkH := Lib.hid hk
    clear hk
    go_enter Tryz.func8, Tryz.ntmps8
    go_wp2_with fail
    refine (l29Asked_at (h0.out.below (by exact bel_)) (hb0.out.below (by exact bel_)) (by omega) hkH.out).mono ?_
    rintro e w1 ⟨rfl, hb1⟩
    have hb10 := Lib.hid (show Below w.heap.size w w1 by exact bel_)
    obtain ⟨chb1, fhb1, shb1, thb1⟩ := bcell hb1
    have s4 := shb1 (w.heap.size + 1 + 1 + 1 + 1) (by go_simp)
    go_wp2
    refine bodyPost_ret (v := .tuple #[.agg #[.slice none 0 0], .int .i64 1]) (by simp only [results, Tryz.results8]; go_simp) rfl ?_
    exact AsmRes.lift (base := w.heap.size) hrH.out rfl (World.ownsRow_nil _ _ _ _) (Nat.le_refl _) (hb10.out.setCell (p := ⟨w.heap.size + 1 + 1 + 1 + 1, 0, none⟩) (by simp; omega) _)
  · cases hT : inB t 1 16
    · have hrH := Lib.hid (show (([], 2) : List Pl × Int) = combR gs ts xs ys t dx dy by unfold combR; rw [if_neg (by rw [hk]; decide), if_pos hT])
      have hkH := Lib.hid hk
      have hTH := Lib.hid hT
      clear hk hT
      go_enter Tryz.func8, Tryz.ntmps8
      go_wp2_with fail
      refine (l29Asked_at (h0.out.below (by exact bel_)) (hb0.out.below (by exact bel_)) (by omega) hkH.out).mono ?_
      rintro e w1 ⟨rfl, hb1⟩
      have hb10 := Lib.hid (show Below w.heap.size w w1 by exact bel_)
      obtain ⟨chb1, fhb1, shb1, thb1⟩ := bcell hb1
      have s4 := shb1 (w.heap.size + 1 + 1 + 1 + 1) (by go_simp)
      go_wp2_with (go_at_call 34; refine (sTempH_at hTH.out).mono ?_; rintro e _ ⟨rfl, rfl⟩)
      refine bodyPost_ret (v := .tuple #[.agg #[.slice none 0 0], .int .i64 2]) (by simp only [results, Tryz.results8]; go_simp) rfl ?_
      exact AsmRes.lift (base := w.heap.size) hrH.out rfl (World.ownsRow_nil _ _ _ _) (Nat.le_refl _) (hb10.out.setCell (p := ⟨w.heap.size + 1 + 1 + 1 + 1, 0, none⟩) (by simp; omega) _)
    · have hrH := Lib.hid (show combE gs ts xs ys t dx dy = combR gs ts xs ys t dx dy by unfold combR; rw [if_neg (by rw [hk]; decide), if_neg (by rw [hT]; decide)])
      have hk2 : validAsmB gs ts xs = true ∧ validAsmB gs ts ys = true := by unfold askJ at hk; simpa using hk
      have hV := Lib.hid (valid_of hk2.1)
      have hV2 := Lib.hid (valid_of hk2.2)
      have hT1 : 1 ≤ t := (inB_true.1 hT).1
      have hkH := Lib.hid hk
      have hTH := Lib.hid hT
      clear hk hT hk2
      go_enter Tryz.func8, Tryz.ntmps8
      go_wp2_with fail
      refine (l29Asked_at (h0.out.below (by exact bel_)) (hb0.out.below (by exact bel_)) (by omega) hkH.out).mono ?_
      rintro e w1 ⟨rfl, hb1⟩
      have hb10 := Lib.hid (show Below w.heap.size w w1 by exact bel_)
      have h1 := Lib.hid (h0.out.below (show Below _ _ w1 by exact bel_))
      have hb1' := Lib.hid (hb0.out.below (show Below _ _ w1 by exact bel_))
      have y4 : w1.cell? ⟨w.heap.size + 1 + 1 + 1 + 1, 0, none⟩ = some (.slice none 0 0) := (hb1.cell (p := ⟨w.heap.size + 1 + 1 + 1 + 1, 0, none⟩) (by simp)).trans (by go_simp)
      have k4 : w1.frozen? ⟨w.heap.size + 1 + 1 + 1 + 1, 0, none⟩ = false := (hb1.frozen (p := ⟨w.heap.size + 1 + 1 + 1 + 1, 0, none⟩) (by simp)).trans (by go_simp)
      obtain ⟨chb1, fhb1, shb1, thb1⟩ := bcell hb1
      have s3 := shb1 (w.heap.size + 1 + 1 + 1) (by go_simp)
      have s4 := shb1 (w.heap.size + 1 + 1 + 1 + 1) (by go_simp)
      go_wp2_with (go_at_call 34; refine (sTempH_at hTH.out).mono ?_; rintro e _ ⟨rfl, rfl⟩)
      refine (l29Combine_any w.heap.size (w.heap.size + 1) (w.heap.size + 1 + 1) gs ts xs ys t dx dy _ h1.out hb1'.out hV.out hV2.out hT1).mono ?_
      rintro e w2 ⟨B, c2, rfl, hown, hb2⟩
      obtain ⟨r, hr⟩ : ∃ r, combE gs ts xs ys t dx dy = r := ⟨_, rfl⟩
      rw [hr] at hown hrH ⊢
      replace y4 := (hb2.cell (p := ⟨w.heap.size + 1 + 1 + 1 + 1, 0, none⟩) s4).trans y4
      replace k4 := (hb2.frozen (p := ⟨w.heap.size + 1 + 1 + 1 + 1, 0, none⟩) s4).trans k4
      have s6 : w.heap.size + 1 + 1 + 1 + 1 < w2.heap.size := Nat.lt_of_lt_of_le s4 hb2.size
      have hown2 := Lib.hid (ownsRow_setCell_below hown (a := ⟨w.heap.size + 1 + 1 + 1 + 1, 0, none⟩) s4 (.slice B r.1.length c2))
      have hge : w.heap.size ≤ w1.heap.size := by omega
      have hbw2 := Lib.hid (hb10.out.trans (hb2.mono hge))
      clear hb2 hown hr hb1 chb1 fhb1 shb1 thb1
      go_wp2
      refine bodyPost_ret (v := .tuple #[.agg #[.slice B r.1.length c2], .int .i64 r.2]) (by simp only [results, Tryz.results8]; go_simp) rfl ?_
      rw [← hrH.out]
      exact ⟨B, c2, rfl, ownsRow_baseU hown2.out hge, hbw2.out.setCell (p := ⟨w.heap.size + 1 + 1 + 1 + 1, 0, none⟩) (by simp; omega) _⟩
end Go.Proofs.YtedihnokcpnikaaGreat
