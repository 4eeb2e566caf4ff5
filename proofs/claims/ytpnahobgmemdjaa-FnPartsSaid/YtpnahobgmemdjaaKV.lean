import Derived.Test.YtpnahobgmemdjaaKW
import Derived.Test.YtpnahobgmemdjaaKQ
import Derived.Test.YtpnahobgmemdjaaN1
set_option linter.unusedSimpArgs false
set_option linter.unusedVariables false
/- Plain facts: two assemblies put together are a row of both in order. -/

namespace Go.Proofs.Ytpnahobgmemdjaa
open Go.RowKit
def ltPl (a b : Pl) : Bool := lessPt a.x a.y b.x b.y
def lePl (a b : Pl) : Bool := !ltPl b a
/-- placed tiles in order of their points -/
def sortPl (L : List Pl) : List Pl := L.mergeSort lePl
def apart (a b : Pl) : Prop := ¬ (a.x = b.x ∧ a.y = b.y)
def SortPl (L : List Pl) : Prop := L.Pairwise fun a b => ltPl a b = true
theorem ltPl_iff (a b : Pl) : ltPl a b = true ↔ a.y < b.y ∨ (a.y = b.y ∧ a.x < b.x) := lessPt_iff _ _ _ _
theorem lePl_iff (a b : Pl) : lePl a b = true ↔ a.y < b.y ∨ (a.y = b.y ∧ a.x ≤ b.x) := by
  unfold lePl
  have := ltPl_iff b a
  cases h : ltPl b a
  · rw [h] at this
    simp only [Bool.not_false, true_iff]
    have h2 : ¬ (b.y < a.y ∨ (b.y = a.y ∧ b.x < a.x)) := fun hc => by have := this.2 hc; cases this
    omega
  · rw [h] at this
    have h2 := this.1 rfl
    simp only [Bool.not_true, Bool.false_eq_true, false_iff]
    omega
theorem lePl_trans (a b c : Pl) (h : lePl a b = true) (k : lePl b c = true) : lePl a c = true := by
  rw [lePl_iff] at *; omega
theorem lePl_total (a b : Pl) : (lePl a b || lePl b a) = true := by
  rw [Bool.or_eq_true, lePl_iff, lePl_iff]; omega
theorem sortPl_len (L : List Pl) : (sortPl L).length = L.length := List.length_mergeSort _
theorem sortPl_mem {L : List Pl} {p : Pl} : p ∈ sortPl L ↔ p ∈ L := List.mem_mergeSort
theorem sortPl_weak (L : List Pl) : (sortPl L).Pairwise (fun a b => lePl a b = true) := List.pairwise_mergeSort lePl_trans lePl_total L
theorem apart_symm {a b : Pl} (h : apart a b) : apart b a := fun ⟨h1, h2⟩ => h ⟨h1.symm, h2.symm⟩
theorem SortPl.weak {L : List Pl} (h : SortPl L) : L.Pairwise (fun a b => lePl a b = true) := h.imp fun {a b} h => by
  rw [ltPl_iff] at h; rw [lePl_iff]; omega
theorem SortPl.apart {L : List Pl} (h : SortPl L) : L.Pairwise apart := h.imp fun {a b} h => by
  rw [ltPl_iff] at h; unfold Proofs.Ytpnahobgmemdjaa.apart; omega
theorem sortPl_strict {L : List Pl} (h : L.Pairwise apart) : SortPl (sortPl L) := by
  have h1 : (sortPl L).Pairwise apart := (List.mergeSort_perm L lePl).symm.pairwise h apart_symm
  have h2 := sortPl_weak L
  refine (List.Pairwise.and h1 h2).imp ?_
  intro a b hab
  have h3 := (lePl_iff a b).1 hab.2
  have h4 : ¬ (a.x = b.x ∧ a.y = b.y) := hab.1
  rw [ltPl_iff]; omega
theorem merge_sortPl {xs ms : List Pl} (hx : SortPl xs) (hm : SortPl ms) (ha : (xs ++ ms).Pairwise apart) : List.merge xs ms lePl = sortPl (xs ++ ms) := by
  have hp : (List.merge xs ms lePl).Perm (xs ++ ms) := List.merge_perm_append lePl
  refine List.Perm.eq_of_pairwise (le := fun a b => ltPl a b = true) ?_ ?_ (sortPl_strict ha) (hp.trans (List.mergeSort_perm _ _).symm)
  · intro a b _ _ h1 h2
    rw [ltPl_iff] at h1 h2; omega
  · have h1 : (List.merge xs ms lePl).Pairwise apart := hp.symm.pairwise ha apart_symm
    have h2 : (List.merge xs ms lePl).Pairwise (fun a b => lePl a b = true) := List.pairwise_merge lePl_trans lePl_total _ _ hx.weak hm.weak
    refine (List.Pairwise.and h1 h2).imp ?_
    intro a b hab
    have h3 := (lePl_iff a b).1 hab.2
    have h4 : ¬ (a.x = b.x ∧ a.y = b.y) := hab.1
    rw [ltPl_iff]; omega
theorem free_apart {gs : List Gl} {ts : List Ti} {xs ms : List Pl} (hV : Valid gs ts xs) {j : Nat} {e : Pl} (he : ms[j]? = some e) (hf : freeAt xs ms j = true) : ∀ d ∈ xs, apart d e := by
  intro d hd ⟨hx, hy⟩
  obtain ⟨k, hk⟩ := List.getElem?_of_mem hd
  have := IsPlace.eq hV (place_found hk hx hy)
  rw [freeAt_eq he, decide_eq_true_eq] at hf
  omega
theorem sortPl_valid {gs : List Gl} {ts : List Ti} {xs : List Pl} (hV : Valid gs ts xs) : SortPl xs := by
  unfold SortPl
  rw [List.pairwise_iff_getElem]
  intro i j hi hj hij
  exact hV.sorted i j _ _ hij (List.getElem?_eq_getElem hi) (List.getElem?_eq_getElem hj)
theorem sortPl_mv {xs : List Pl} (h : SortPl xs) (dx dy : Int) : SortPl (mvL dx dy xs) := by
  unfold SortPl mvL
  rw [List.pairwise_map]
  refine List.Pairwise.imp ?_ h
  intro a b h
  unfold ltPl mvP at *
  simp only
  rw [lessPt_mv]
  exact h
/-- the facts of two assemblies of which the second stands free -/
structure Two (gs : List Gl) (ts : List Ti) (xs ms : List Pl) : Prop where
  V : Valid gs ts xs
  srt : SortPl ms
  pt : ∀ (k : Nat) (e : Pl), ms[k]? = some e → (-60 ≤ e.x ∧ e.x ≤ 60) ∧ (-60 ≤ e.y ∧ e.y ≤ 60) ∧ ∃ t : Nat, e.t = t ∧ t < ts.length
  fr : ∀ j, j < ms.length → freeAt xs ms j = true
theorem Two.apart {gs : List Gl} {ts : List Ti} {xs ms : List Pl} (h : Two gs ts xs ms) : (xs ++ ms).Pairwise apart := by
  rw [List.pairwise_append]
  refine ⟨(sortPl_valid h.V).apart, h.srt.apart, fun d hd e he => ?_⟩
  obtain ⟨k, hk⟩ := List.getElem?_of_mem he
  exact free_apart h.V hk (h.fr k (lt_of_get hk)) d hd
theorem Two.sorted {gs : List Gl} {ts : List Ti} {xs ms : List Pl} (h : Two gs ts xs ms) : SortPl (sortPl (xs ++ ms)) := sortPl_strict h.apart
theorem Two.merge {gs : List Gl} {ts : List Ti} {xs ms : List Pl} (h : Two gs ts xs ms) : List.merge xs ms lePl = sortPl (xs ++ ms) := merge_sortPl (sortPl_valid h.V) h.srt h.apart
theorem Two.valid {gs : List Gl} {ts : List Ti} {xs ms : List Pl} (h : Two gs ts xs ms) (hl : xs.length + ms.length ≤ 500) : Valid gs ts (sortPl (xs ++ ms)) := by
  have hmem : ∀ e ∈ sortPl (xs ++ ms), (-60 ≤ e.x ∧ e.x ≤ 60) ∧ (-60 ≤ e.y ∧ e.y ≤ 60) ∧ ∃ t : Nat, e.t = t ∧ t < ts.length := by
    intro e he
    rcases List.mem_append.1 (sortPl_mem.1 he) with he | he
    · obtain ⟨k, hk⟩ := List.getElem?_of_mem he
      exact ⟨(h.V.pt k e hk).1, (h.V.pt k e hk).2, h.V.ti k e hk⟩
    · obtain ⟨k, hk⟩ := List.getElem?_of_mem he
      exact h.pt k e hk
  refine { len := ?_, gl := h.V.gl, tl := h.V.tl, pt := ?_, ti := ?_, sorted := ?_, four := h.V.four, side := h.V.side, str := h.V.str }
  · rw [sortPl_len, List.length_append]; exact hl
  · intro k e hk
    have := hmem e (List.mem_of_getElem? hk)
    exact ⟨this.1, this.2.1⟩
  · intro k e hk
    exact (hmem e (List.mem_of_getElem? hk)).2.2
  · intro i j d e hij hd he
    obtain ⟨hi, rfl⟩ := List.getElem?_eq_some_iff.1 hd
    obtain ⟨hj, rfl⟩ := List.getElem?_eq_some_iff.1 he
    exact List.pairwise_iff_getElem.1 h.sorted i j hi hj hij
theorem mvOk_zero {gs : List Gl} {ts : List Ti} {xs : List Pl} (hV : Valid gs ts xs) : mvOk 0 0 xs = true := by
  refine allB_true fun j hj => ?_
  have he := List.getElem?_eq_getElem hj
  rw [okMv_eq he]
  have := hV.pt j _ he
  unfold validPt
  rw [Bool.and_eq_true, inB_true, inB_true]
  omega
theorem mvL_zero (xs : List Pl) : mvL 0 0 xs = xs := by
  unfold mvL
  have : mvP 0 0 = id := by funext e; cases e; simp [mvP]
  rw [this, List.map_id]
theorem hasForm_valid {gs : List Gl} {ts : List Ti} {xs : List Pl} (hV : Valid gs ts xs) : hasFormB xs = true := by
  have := hasForm_mv 0 0 hV
  rw [mvL_zero, mvOk_zero hV] at this
  exact this
/-- an assembly in normal form -/
def normE (zs : List Pl) : List Pl × Int := match zs with
  | [] => ([], 3)
  | e :: l => if mvOk (-e.x) (-e.y) (e :: l) = true then (mvL (-e.x) (-e.y) (e :: l), 0) else ([], 2)
theorem normE_ok {zs : List Pl} {e : Pl} (h : zs[0]? = some e) (hm : mvOk (-e.x) (-e.y) zs = true) : (mvL (-e.x) (-e.y) zs, 0) = normE zs := by
  cases zs with
  | nil => simp at h
  | cons d l =>
    simp at h
    subst h
    exact (if_pos hm).symm
theorem normE_no {zs : List Pl} {e : Pl} (h : zs[0]? = some e) (hm : mvOk (-e.x) (-e.y) zs = false) : (([], 2) : List Pl × Int) = normE zs := by
  cases zs with
  | nil => simp at h
  | cons d l =>
    simp at h
    subst h
    exact (if_neg (by rw [hm]; decide)).symm
noncomputable def combE (gs : List Gl) (ts : List Ti) (xs ys : List Pl) (T dx dy : Int) : List Pl × Int :=
  if (joinM gs ts xs ys dx dy).2 = 0 then
    if (joinM gs ts xs ys dx dy).1 < T then ([], 5)
    else if 500 < xs.length + ys.length then ([], 4) else normE (sortPl (xs ++ mvL dx dy ys))
  else ([], (joinM gs ts xs ys dx dy).2)
noncomputable def combR (gs : List Gl) (ts : List Ti) (xs ys : List Pl) (T dx dy : Int) : List Pl × Int :=
  if askJ gs ts xs ys = false then ([], 1) else if inB T 1 16 = false then ([], 2) else combE gs ts xs ys T dx dy
theorem combE_code {gs : List Gl} {ts : List Ti} {xs ys : List Pl} {T dx dy s c : Int} (h : joinM gs ts xs ys dx dy = (s, c)) (hc : ¬ c = 0) : (([], c) : List Pl × Int) = combE gs ts xs ys T dx dy := by
  unfold combE; rw [h, if_neg hc]
theorem combE_weak {gs : List Gl} {ts : List Ti} {xs ys : List Pl} {T dx dy s : Int} (h : joinM gs ts xs ys dx dy = (s, 0)) (hs : s < T) : (([], 5) : List Pl × Int) = combE gs ts xs ys T dx dy := by
  unfold combE; rw [h, if_pos rfl, if_pos hs]
theorem combE_full {gs : List Gl} {ts : List Ti} {xs ys : List Pl} {T dx dy s : Int} (h : joinM gs ts xs ys dx dy = (s, 0)) (hs : ¬ s < T) (hl : 500 < xs.length + ys.length) : (([], 4) : List Pl × Int) = combE gs ts xs ys T dx dy := by
  unfold combE; rw [h, if_pos rfl, if_neg hs, if_pos hl]
theorem combE_norm {gs : List Gl} {ts : List Ti} {xs ys : List Pl} {T dx dy s : Int} (h : joinM gs ts xs ys dx dy = (s, 0)) (hs : ¬ s < T) (hl : ¬ 500 < xs.length + ys.length) : normE (sortPl (xs ++ mvL dx dy ys)) = combE gs ts xs ys T dx dy := by
  unfold combE; rw [h, if_pos rfl, if_neg hs, if_neg hl]
/-- what a strength without an error says -/
theorem joinM_ok {gs : List Gl} {ts : List Ti} {xs ys : List Pl} {dx dy s : Int} (hV : Valid gs ts xs) (hV2 : Valid gs ts ys) (h : joinM gs ts xs ys dx dy = (s, 0)) :
    inB dx (-120) 120 = true ∧ inB dy (-120) 120 = true ∧ mvOk dx dy ys = true ∧ Two gs ts xs (mvL dx dy ys) ∧ s = sumJ gs ts xs (mvL dx dy ys) (mvL dx dy ys).length := by
  unfold joinM at h
  cases hx : inB dx (-120) 120
  · rw [if_pos hx] at h; injection h with h1 h2; cases h2
  cases hy : inB dy (-120) 120
  · rw [if_neg (by rw [hx]; decide), if_pos hy] at h; injection h with h1 h2; cases h2
  cases hm : mvOk dx dy ys
  · rw [if_neg (by rw [hx]; decide), if_neg (by rw [hy]; decide), if_pos hm] at h; injection h with h1 h2; cases h2
  rw [if_neg (by rw [hx]; decide), if_neg (by rw [hy]; decide), if_neg (by rw [hm]; decide)] at h
  unfold joinE at h
  by_cases hf : allB (mvL dx dy ys).length (freeAt xs (mvL dx dy ys)) = true
  · rw [if_pos hf] at h
    injection h with h1 h2
    exact ⟨rfl, rfl, rfl, ⟨hV, sortPl_mv (sortPl_valid hV2) dx dy, fun k e h => mv_pt hV2 hm h, fun j hj => allB_at hf hj⟩, h1.symm⟩
  · rw [if_neg hf] at h; injection h with h1 h2; cases h2
theorem join_first {gs : List Gl} {ts : List Ti} {xs ms : List Pl} {T s : Int} (hT : 1 ≤ T) (hs : ¬ s < T) (h : s = sumJ gs ts xs ms ms.length) : ∃ e, (sortPl (xs ++ ms))[0]? = some e := by
  cases ms with
  | nil => simp [sumJ] at h; omega
  | cons d l => exact ⟨_, List.getElem?_eq_getElem (by rw [sortPl_len]; simp; omega)⟩
end Go.Proofs.Ytpnahobgmemdjaa
/- slices.SortFunc at rows of placed tiles that a call has made. -/


namespace Go.Proofs.Ytpnahobgmemdjaa
open Go.RowKit Go.Shelf Go.Lib Go.Sort
attribute [local go_sem] BelowBy.cell BelowBy.cell_drew stillUpon givesUpon

set_option maxRecDepth 100000
def mkPl (f : Pt → Int) (p : Pt) : Pl := ⟨p.x, p.y, f p⟩
def encPl (f : Pt → Int) (p : Pt) : List Value := [.int .i64 p.x, .int .i64 p.y, .int .i64 (f p)]
def tileOfV (L : List Pl) (p : Pt) : Int := match L.find? (fun e => decide (e.x = p.x ∧ e.y = p.y)) with
  | some e => e.t
  | none => 0
def ptOf (e : Pl) : Pt := ⟨e.x, e.y⟩
theorem tileOf_mem {L : List Pl} (h : L.Pairwise apart) : ∀ e ∈ L, tileOfV L (ptOf e) = e.t := by
  induction L with
  | nil => intro e he; simp at he
  | cons d l ih =>
    obtain ⟨h1, h2⟩ := List.pairwise_cons.1 h
    intro e he
    unfold tileOfV
    rw [List.find?_cons]
    rcases List.mem_cons.1 he with rfl | he
    · simp [ptOf]
    · have h3 : ¬ (d.x = e.x ∧ d.y = e.y) := h1 e he
      have h4 : decide (d.x = (ptOf e).x ∧ d.y = (ptOf e).y) = false := decide_eq_false h3
      rw [h4]
      exact ih h2 e he
theorem mk_ptOf {L : List Pl} (h : L.Pairwise apart) : (L.map ptOf).map (mkPl (tileOfV L)) = L := by
  rw [List.map_map]
  have : ∀ e ∈ L, (mkPl (tileOfV L) ∘ ptOf) e = e := fun e he => by
    have := tileOf_mem h e he
    simp only [Function.comp, mkPl, this]
    cases e; rfl
  rw [List.map_congr_left this, List.map_id'']
  intro x; rfl
theorem sort_ptOf {L : List Pl} (h : L.Pairwise apart) : (sortP (L.map ptOf)).map (mkPl (tileOfV L)) = sortPl L := by
  have hp : ((sortP (L.map ptOf)).map (mkPl (tileOfV L))).Perm L := by
    have h1 : ((sortP (L.map ptOf)).map (mkPl (tileOfV L))).Perm ((L.map ptOf).map (mkPl (tileOfV L))) := (List.mergeSort_perm _ _).map _
    rw [mk_ptOf h] at h1
    exact h1
  refine List.Perm.eq_of_pairwise (le := fun a b => ltPl a b = true) ?_ ?_ (sortPl_strict h) (hp.trans (List.mergeSort_perm _ _).symm)
  · intro a b _ _ h1 h2
    rw [ltPl_iff] at h1 h2; omega
  · have h1 : ((sortP (L.map ptOf)).map (mkPl (tileOfV L))).Pairwise apart := hp.symm.pairwise h apart_symm
    have h2 : ((sortP (L.map ptOf)).map (mkPl (tileOfV L))).Pairwise (fun a b => lePl a b = true) := by
      rw [List.pairwise_map]
      have hs : (sortP (L.map ptOf)).Pairwise (fun a b => (!(ltOf cmpP) b a) = true) := by
        refine List.pairwise_mergeSort ?_ ?_ _
        · intro a b c h1 h2
          have := swo_cmpP.ntrans (x := c) (y := b) (z := a) (by simpa using h2) (by simpa using h1)
          simp [this]
        · intro a b
          cases h1 : ltOf cmpP a b
          · simp
          · have := (swo_cmpP.asymm h1)
            simp [this]
      refine hs.imp ?_
      intro a b h
      rw [ltOf_cmpP] at h
      exact h
    refine (List.Pairwise.and h1 h2).imp ?_
    intro a b hab
    have h3 := (lePl_iff a b).1 hab.2
    have h4 : ¬ (a.x = b.x ∧ a.y = b.y) := hab.1
    rw [ltPl_iff]; omega
theorem flat_pl (f : Pt → Int) (L : List Pt) : (flatK (encPl f) 3 L.toArray).toList = plCells (L.map (mkPl f)) := by
  apply List.ext_getElem?
  intro t
  rw [Array.getElem?_toList]
  by_cases ht : t < L.length * 3
  · have hs : t < (flatK (encPl f) 3 L.toArray).size := by rw [size_flatK]; simpa using ht
    have h1 : (flatK (encPl f) 3 L.toArray)[t]? = some (flatK (encPl f) 3 L.toArray)[t]! := by rw [getElem!_pos _ t hs, Array.getElem?_eq_getElem hs]
    rw [h1, get_flatK _ _ _ _ (by simpa using ht)]
    have hq : t / 3 < L.length := by omega
    have hg := plCells_get (L.map (mkPl f)) (t / 3) (mkPl f L[t / 3]) (by rw [List.getElem?_map, List.getElem?_eq_getElem hq]; rfl)
    have he : L.toArray[t / 3]! = L[t / 3] := by rw [getElem!_pos _ _ (by simpa using hq)]; simp
    rw [he]
    rcases (show t % 3 = 0 ∨ t % 3 = 1 ∨ t % 3 = 2 by omega) with hm | hm | hm
    · rw [hm]
      have : t / 3 * 3 = t := by omega
      rw [this] at hg
      rw [hg.1]; rfl
    · rw [hm]
      have : t / 3 * 3 + 1 = t := by omega
      rw [this] at hg
      rw [hg.2.1]; rfl
    · rw [hm]
      have : t / 3 * 3 + 2 = t := by omega
      rw [this] at hg
      rw [hg.2.2]; rfl
  · rw [Array.getElem?_eq_none (by rw [size_flatK]; simpa using ht), List.getElem?_eq_none (by rw [plCells_len, List.length_map]; omega)]
theorem holds_rowPl {f : Pt → Int} {w : World} {g : Nat} {cur : Array Value} {e : TypeId} {L : List Pt} (hb : w.heap[g]? = some (.cells cur e (0, 0))) (ht : cur.toList.take (L.length * 3) = plCells (L.map (mkPl f))) : HoldsK (encPl f) 3 w g 0 L.toArray := by
  intro j hj
  rw [size_flatK] at hj
  have hj' : j < L.length * 3 := by simpa using hj
  refine ⟨?_, by simp [World.frozen?, hb]⟩
  have h1 : (cur.toList.take (L.length * 3))[j]? = (plCells (L.map (mkPl f)))[j]? := by rw [ht]
  rw [List.getElem?_take_of_lt hj', ← flat_pl, Array.getElem?_toList, Array.getElem?_toList] at h1
  have hs : j < (flatK (encPl f) 3 L.toArray).size := by rw [size_flatK]; simpa using hj'
  simp only [World.cell?, hb, Nat.zero_add]
  simp only [Option.isSome_none, Bool.false_eq_true, if_false, id]
  rw [h1, getElem!_pos _ j hs, Array.getElem?_eq_getElem hs]
theorem heap_sortedPl {f : Pt → Int} {w : World} {g n : Nat} {os : Array Obj} {cur : Array Value} {e : TypeId} {fr : Nat × Nat} (d : Array Pt) (hb : w.heap[g]? = some (.cells cur e fr)) :
    (sortWorldK (encPl f) 3 w g 0 n d os).heap[g]? = some (.cells (putCells id 0 (flatK (encPl f) 3 d) cur) e fr) := by
  have hg : g < w.heap.size := (Array.getElem?_eq_some_iff.1 hb).1
  unfold sortWorldK putRowK
  rw [heap_grow_old _ _ (by simpa using hg)]
  simp [putRow, mapBlock, Sort.ahead, Array.getElem?_modify, hb, onCells]
theorem grownBy_sortedPl {f : Pt → Int} {w : World} {g n : Nat} {os : Array Obj} (d : Array Pt) : w.grownBy (sortWorldK (encPl f) 3 w g 0 n d os) (some g) := by
  refine ⟨rfl, rfl, rfl, by simp [sortWorldK, putRowK], fun k hk hne => ?_⟩
  unfold sortWorldK putRowK
  rw [heap_grow_old _ _ (by simpa using hk)]
  have : g ≠ k := fun e => hne (by rw [e])
  simp [putRow, mapBlock, Sort.ahead, Array.getElem?_modify, this]
theorem take_putPl (f : Pt → Int) (cur : Array Value) (L : List Pt) (h : L.length * 3 ≤ cur.size) : (putCells id 0 (flatK (encPl f) 3 L.toArray) cur).toList.take (L.length * 3) = plCells (L.map (mkPl f)) := by
  rw [← flat_pl]
  apply List.ext_getElem?
  intro j
  by_cases hj : j < L.length * 3
  · have hs : j < (flatK (encPl f) 3 L.toArray).size := by rw [size_flatK]; simpa using hj
    rw [List.getElem?_take_of_lt hj, Array.getElem?_toList, Array.getElem?_toList]
    simp only [putCells, Array.getElem?_mapIdx, Nat.zero_le, Nat.zero_add, true_and, Nat.sub_zero]
    rw [Array.getElem?_eq_getElem (show j < cur.size by omega)]
    simp only [Option.map_some, id]
    rw [if_pos hs, getElem!_pos _ j hs, Array.getElem?_eq_getElem hs]
  · rw [List.getElem?_take_eq_none (by omega), Array.getElem?_toList, Array.getElem?_eq_none (by rw [size_flatK]; simpa using hj)]
theorem assemblyLess_exact (f : Pt → Int) (x y : Pt) (w : World) :
    Calls Try.prog 77 #[.agg #[.int .i64 x.x, .int .i64 x.y, .int .i64 (f x)], .agg #[.int .i64 y.x, .int .i64 y.y, .int .i64 (f y)]] w fun e w' => e = .returned (.int .i64 (cmpP x y)) ∧ ∃ q os, w' = grow (w.drewN q) os := by
  go_enter Try.func77, Try.ntmps77
  go_wp2_with fail
  refine (comparePoints_exact x y _).mono ?_
  rintro e w1 ⟨rfl, q, os, rfl⟩
  go_wp2
  go_ret
  refine ⟨rfl, ?_⟩
  have hdg : ∀ (w : World) (os : Array Obj), (grow w os).drewN q = grow (w.drewN q) os := fun w os => rfl
  simp only [alloc_eq_grow, drew_grow, grow_grow, hdg, World.drew_is_drewN, World.drewN_drewN]
  exact ⟨_, _, rfl⟩
set_option maxHeartbeats 1000000 in
theorem SortFuncPl_any (L : List Pl) (hap : L.Pairwise apart) (B g cap : Nat) (w : World) (hrow : w.ownsRow B 38 3 (.slice (some ⟨g, 0, none⟩) L.length cap) L.length (plCells L)) (hl : L.length ≤ 1000000) :
    Calls Try.prog 76 #[.slice (some ⟨g, 0, none⟩) L.length cap, .func (.func 77) #[] #[]] w fun e w' => e = .returned (.tuple #[]) ∧
      w'.ownsRow B 38 3 (.slice (some ⟨g, 0, none⟩) L.length cap) L.length (plCells (sortPl L)) ∧ w.grownBy w' (some g) := by
  rcases hrow with ⟨hcl, h0 | ⟨g', cap', cur, hv, hB, hb, h1, h2, h3, h4⟩⟩
  · cases h0.1
  cases hv
  have hmk := mk_ptOf hap
  have hso := sort_ptOf hap
  obtain ⟨P, hP⟩ : ∃ P, L.map ptOf = P := ⟨_, rfl⟩
  obtain ⟨f, hf⟩ : ∃ f, tileOfV L = f := ⟨_, rfl⟩
  rw [hP, hf] at hmk hso
  have hPl : P.length = L.length := by rw [← hP, List.length_map]
  have eg : ∀ args w, (callFunc 77 args).run Try.prog w = .ok (.enter 77 args) w := enters_of Try.func77 (by kernel_rfl) rfl
  rw [← hmk, List.length_map] at h4
  have hH := holds_rowPl (f := f) hb h4
  have hgl := (Array.getElem?_eq_some_iff.1 hb).1
  have hcon := AnyQ.slices_SortFunc_total Try.sortPl 3 Try.isAgg38 Try.sizeOf38 (encPl f) (fun _ => rfl) (fun x v hv => by simp [encPl] at hv; rcases hv with rfl | rfl | rfl <;> rfl) cmpP swo_cmpP 77 #[] g 0 cap P.toArray w eg
    (fun _ _ _ _ x y => assemblyLess_exact f x y _) hH hgl (by simp; omega) part_cmpP
  have hPs : P.toArray.size = L.length := by simpa using hPl
  rw [hPs] at hcon
  refine hcon.mono ?_
  rintro e w' ⟨he, n, os, rfl⟩
  refine ⟨he, ?_, grownBy_sortedPl _⟩
  have hsl := sortPl_len L
  refine ⟨by rw [plCells_len, hsl], .inr ⟨g, cap, _, rfl, hB, heap_sortedPl _ hb, h1, h2, by simp [putCells, h3], ?_⟩⟩
  have := take_putPl f cur (sortP P) (by rw [sortP_len, hPl, h3]; exact Nat.mul_le_mul_right 3 h1)
  rw [sortP_len, hPl, hso] at this
  exact this
end Go.Proofs.Ytpnahobgmemdjaa
/- Walks: what a pair of hands asks of a set, a temperature and assemblies. -/

namespace Go.Proofs.Ytpnahobgmemdjaa
open Go.RowKit Go.Shelf
attribute [local go_sem] BelowBy.cell BelowBy.cell_drew stillUpon givesUpon BelowBy.cell_drew2 BelowBy.cell_drew3

/-- a set is read -/
structure TS (w : World) (G : Option Addr) (n : Nat) (T : Option Addr) (m : Nat) (gs : List Gl) (ts : List Ti) : Prop where
  G : RdSl 2 RGl w G n gs
  T : RdSl 2 RTi w T m ts
  gm : n ≤ 1073741824
  tm : m ≤ 1073741824
  gn : ∀ (k : Nat) (e : Gl), gs[k]? = some e → e.name.size ≤ 9223372036854775807
  tn : ∀ (k : Nat) (e : Ti), ts[k]? = some e → e.name.size ≤ 9223372036854775807 ∧ e.sides.length ≤ 9223372036854775807
section
variable {w w' : World} {G T A : Option Addr} {n cg m ct q ca : Nat} {gs : List Gl} {ts : List Ti} {xs : List Pl}
theorem TS.below (h : TS w G n T m gs ts) (hb : Below w.heap.size w w') : TS w' G n T m gs ts :=
  ⟨h.G.below RGl.stable hb, h.T.below RTi.stable hb, h.gm, h.tm, h.gn, h.tn⟩
theorem TS.sa (h : TS w G n T m gs ts) (hA : RdSl 3 RPl w A q xs) (hq : q ≤ 1073741824) : SA w G n T m A q gs ts xs := ⟨h.G, h.T, hA, h.gm, h.tm, hq, h.gn, h.tn⟩
theorem SA.toTS (h : SA w G n T m A q gs ts xs) : TS w G n T m gs ts := ⟨h.G, h.T, h.gm, h.tm, h.gn, h.tn⟩
end
/-- a block of assemblies -/
def LRow (w : World) (g : Nat) (Ls : List (List Pl)) : Prop := g < w.heap.size ∧ ∀ (k : Nat) (l : List Pl), Ls[k]? = some l → ∃ A q c, w.cell? ⟨g, k, none⟩ = some (.slice A q c) ∧ RdSl 3 RPl w A q l ∧ q ≤ 1073741824
theorem LRow.below {w w' : World} {g : Nat} {Ls : List (List Pl)} (h : LRow w g Ls) (hb : Below w.heap.size w w') : LRow w' g Ls := by
  refine ⟨Nat.lt_of_lt_of_le h.1 hb.size, fun k l hk => ?_⟩
  obtain ⟨A, q, c, h1, h2, h3⟩ := h.2 k l hk
  exact ⟨A, q, c, (hb.cell (p := ⟨g, k, none⟩) h.1).trans h1, h2.below RPl.stable hb, h3⟩
/-- the box of a pair of hands -/
structure HBox (w : World) (p : Nat) (G : Option Addr) (n : Nat) (T : Option Addr) (m : Nat) (gs : List Gl) (ts : List Ti) : Prop where
  lt : p < w.heap.size
  c0 : ∃ cg, w.cell? ⟨p, 0, none⟩ = some (.slice G n cg)
  c1 : ∃ ct, w.cell? ⟨p, 1, none⟩ = some (.slice T m ct)
  ts : TS w G n T m gs ts
theorem HBox.below {w w' : World} {p : Nat} {G T : Option Addr} {n m : Nat} {gs : List Gl} {ts : List Ti} (h : HBox w p G n T m gs ts) (hb : Below w.heap.size w w') : HBox w' p G n T m gs ts := by
  obtain ⟨cg, h0⟩ := h.c0
  obtain ⟨ct, h1⟩ := h.c1
  exact ⟨Nat.lt_of_lt_of_le h.lt hb.size, ⟨cg, (hb.cell (p := ⟨p, 0, none⟩) h.lt).trans h0⟩, ⟨ct, (hb.cell (p := ⟨p, 1, none⟩) h.lt).trans h1⟩, h.ts.below hb⟩
def okL (gs : List Gl) (ts : List Ti) (Ls : List (List Pl)) (k : Nat) : Bool := match Ls[k]? with
  | some l => validAsmB gs ts l
  | none => true
theorem okL_eq {gs : List Gl} {ts : List Ti} {Ls : List (List Pl)} {k : Nat} {l : List Pl} (h : Ls[k]? = some l) : okL gs ts Ls k = validAsmB gs ts l := by unfold okL; rw [h]
def codeH (gs : List Gl) (ts : List Ti) (Ls : List (List Pl)) (t : Int) : Int :=
  if (validSetB gs ts && allB Ls.length (okL gs ts Ls)) = false then 1 else if inB t 1 16 = false then 2 else 0
end Go.Proofs.Ytpnahobgmemdjaa
/- Walks: placed tiles sorted to an assembly; two assemblies joined; an assembly in normal form. -/



namespace Go.Proofs.Ytpnahobgmemdjaa
open Go.RowKit Go.Shelf
attribute [local go_sem] BelowBy.cell BelowBy.cell_drew stillUpon givesUpon BelowBy.cell_drew2 BelowBy.cell_drew3

theorem ownsRow_baseU {w : World} {base base' : Nat} {e : TypeId} {size : Nat} {v : Value} {n : Nat} {xs : List Value} (h : w.ownsRow base e size v n xs) (hb : base' ≤ base) : w.ownsRow base' e size v n xs :=
  ⟨h.1, h.2.imp id (fun ⟨g, cap, cur, h1, h2, h3⟩ => ⟨g, cap, cur, h1, Nat.le_trans hb h2, h3⟩)⟩
/-- the result is an assembly of the call's own -/
def OwnAsm (w : World) (Z : List Pl) (e : Ending) (w' : World) : Prop :=
  ∃ B c', e = .returned (.agg #[.slice B Z.length c']) ∧ w'.ownsRow w.heap.size 38 3 (.slice B Z.length c') Z.length (plCells Z) ∧ Below w.heap.size w w'
set_option maxRecDepth 100000 in
set_option maxHeartbeats 1000000 in
theorem assemblyOf_any (A : Option Addr) (n c : Nat) (L : List Pl) (w : World) (h : RdSl 3 RPl w A n L) (hn : n ≤ 100000) (h0 : 0 < n) (hap : L.Pairwise apart) :
    Calls Try.prog 47 #[.slice A n c] w (OwnAsm w (sortPl L)) := by
  have hlH := Lib.hid h.len
  have hH := Lib.hid h
  have hapH := Lib.hid hap
  clear h hap
  go_enter Try.func47, Try.ntmps47
  go_wp2_with fail
  refine (CloneP_any A n c L _ (hH.out.below RPl.stable (by exact bel_)) hn).mono ?_
  rintro e w1 ⟨v, rfl, hown, hb1⟩
  rw [hlH.out] at hown
  rcases hown.2 with ⟨_, h00⟩ | ⟨g, cap, cur, rfl, hbg, hh, _⟩
  · omega
  have hgw : g < w1.heap.size := (Array.getElem?_eq_some_iff.1 hh).1
  have hbg2 : w.heap.size + 1 ≤ g := by simpa using hbg
  have r0 : w1.cell? ⟨w.heap.size, 0, none⟩ = some (.slice none 0 0) := (hb1.cell (p := ⟨w.heap.size, 0, none⟩) (by simp)).trans (by go_simp)
  have rf : w1.frozen? ⟨w.heap.size, 0, none⟩ = false := (hb1.frozen (p := ⟨w.heap.size, 0, none⟩) (by simp)).trans (by go_simp)
  have hs1 : w.heap.size + 1 ≤ w1.heap.size := by have := hb1.size; simpa using this
  have hbw1 := Lib.hid (show Below w.heap.size w w1 by exact bel_)
  have hownH := Lib.hid hown
  clear hown hb1 hbg hh
  go_wp2_with fail
  have hsrt := SortFuncPl_any L hapH.out (w.heap.size + 1) g cap w1 (by rw [hlH.out]; simpa using hownH.out) (by rw [hlH.out]; omega)
  rw [hlH.out] at hsrt
  refine hsrt.mono ?_
  rintro e w2 ⟨rfl, hown2, hg2⟩
  have hX : Below (w.heap.size + 1) w1 w2 := (Below.refl (w.heap.size + 1) w1).grown hg2 hs1 (fun b e => by injection e with e; omega)
  replace r0 := (hX.cell (p := ⟨w.heap.size, 0, none⟩) (by simp)).trans r0
  replace rf := (hX.frozen (p := ⟨w.heap.size, 0, none⟩) (by simp)).trans rf
  have hs2 : w.heap.size < w2.heap.size := by have := hX.size; omega
  have hown2H := Lib.hid hown2
  have hbw2 := Lib.hid (hbw1.out.trans (hX.mono (by omega)))
  clear hown2 hg2 hsrt hX
  go_wp2
  refine bodyPost_ret (v := .agg #[.slice (some ⟨g, 0, none⟩) n cap]) (by simp only [results, Try.results47]; go_simp) rfl ?_
  have hsl : (sortPl L).length = n := by rw [sortPl_len]; exact hlH.out
  refine ⟨some ⟨g, 0, none⟩, cap, by rw [hsl], ?_, hbw2.out.setCell (p := ⟨w.heap.size, 0, none⟩) (by simp) _⟩
  rw [hsl]
  exact ownsRow_baseU (ownsRow_setCell_below hown2H.out (by simp) _) (by omega)
/-- an assembly and a sign -/
def OwnAsmB (w : World) (Z : List Pl) (v : Bool) (e : Ending) (w' : World) : Prop :=
  ∃ B c', e = .returned (.tuple #[.agg #[.slice B Z.length c'], .bool v]) ∧ w'.ownsRow w.heap.size 38 3 (.slice B Z.length c') Z.length (plCells Z) ∧ Below w.heap.size w w'
set_option maxRecDepth 100000 in
set_option maxHeartbeats 4000000 in
theorem joined_any (A C : Option Addr) (n ca m cb : Nat) (gs : List Gl) (ts : List Ti) (xs ms : List Pl) (w : World) (hA : RdSl 3 RPl w A n xs) (hC : RdSl 3 RPl w C m ms) (h2 : Two gs ts xs ms) (hml : m ≤ 500) (h0 : 0 < m) :
    Calls Try.prog 37 #[.agg #[.slice A n ca], .agg #[.slice C m cb]] w (OwnAsmB w (sortPl (xs ++ ms)) true) := by
  obtain ⟨i2, hi2, hz02, hz12, hz22⟩ := info_parts infoPl
  have hlA := Lib.hid hA.len
  have hlC := Lib.hid hC.len
  have hn5 : n ≤ 500 := by have := h2.V.len; rw [hA.len] at this; exact this
  have hVH := Lib.hid h2.V
  have hfr := Lib.hid h2.fr
  have hap := Lib.hid h2.apart
  have hAH := Lib.hid hA
  have hCH := Lib.hid hC
  clear hA hC h2
  go_enter Try.func37, Try.ntmps37
  go_wp2_with fail
  refine (CloneP_any A n ca xs _ (hAH.out.below RPl.stable (by exact bel_)) (by omega)).mono ?_
  rintro e w1 ⟨v1, rfl, hown, hb1⟩
  rw [hlA.out] at hown
  obtain ⟨A3, c3, rfl⟩ := ownsRow_form hown
  have hown0 := Lib.hid (show w1.ownsRow (w.heap.size + 3) 38 3 (.slice A3 n c3) n (plCells xs) by simpa using hown)
  have hs1 : w.heap.size + 3 ≤ w1.heap.size := by have := hb1.size; simpa using this
  have hbw1 := Lib.hid (show Below w.heap.size w w1 by exact bel_)
  have ka : w1.cell? ⟨w.heap.size, 0, none⟩ = some (.slice A n ca) := (hb1.cell (p := ⟨w.heap.size, 0, none⟩) (by simp; omega)).trans (by go_simp)
  have kb : w1.cell? ⟨w.heap.size + 1, 0, none⟩ = some (.slice C m cb) := (hb1.cell (p := ⟨w.heap.size + 1, 0, none⟩) (by simp)).trans (by go_simp)
  have r0 : w1.cell? ⟨w.heap.size + 1 + 1, 0, none⟩ = some (.slice none 0 0) := (hb1.cell (p := ⟨w.heap.size + 1 + 1, 0, none⟩) (by simp)).trans (by go_simp)
  have rf : w1.frozen? ⟨w.heap.size + 1 + 1, 0, none⟩ = false := (hb1.frozen (p := ⟨w.heap.size + 1 + 1, 0, none⟩) (by simp)).trans (by go_simp)
  have l0 : w.heap.size < w1.heap.size := by omega
  have l1 : w.heap.size + 1 < w1.heap.size := by omega
  have l2 : w.heap.size + 1 + 1 < w1.heap.size := by omega
  clear hown hb1
  go_wp2
  go_loopg [16, 6] m (fun g x y wr => ∃ (k : Nat) (A4 : Option Addr) (c4 : Nat), k + g = m ∧ x = .int .i64 (k : Int) ∧ y = .slice A4 (n + k) c4 ∧ Hid (wr.ownsRow (w.heap.size + 3) 38 3 (.slice A4 (n + k) c4) (n + k) (plCells (xs ++ ms.take k))) ∧ Hid (Below w.heap.size w wr) ∧ w.heap.size + 3 ≤ wr.heap.size ∧ wr.cell? ⟨w.heap.size, 0, none⟩ = some (.slice A n ca) ∧ wr.cell? ⟨w.heap.size + 1 + 1, 0, none⟩ = some (.slice none 0 0) ∧ wr.frozen? ⟨w.heap.size + 1 + 1, 0, none⟩ = false)
  case atStart => exact ⟨0, A3, c3, by omega, rfl, rfl, Lib.hid (by simpa using hown0.out), hbw1, hs1, ka, r0, rf⟩
  case round =>
    clear hown0 hbw1 hs1 ka kb r0 rf l0 l1 l2
    obtain ⟨k, A4, c4, hk, rfl, rfl, hO, hbw, hs1, ka, r0, rf⟩ := hrel
    have l0 : w.heap.size < wr.heap.size := by omega
    have l2 : w.heap.size + 1 + 1 < wr.heap.size := by omega
    by_cases hkm : k < m
    · obtain ⟨e, he⟩ : ∃ e, ms[k]? = some e := ⟨_, List.getElem?_eq_getElem (by have := hlC.out; omega)⟩
      obtain ⟨bB, oB, rfl, hbB, hcB⟩ := (hCH.out.below RPl.stable hbw.out).ptr (by omega)
      obtain ⟨e0, e1, e2⟩ := hcB k e he
      have hat : atI xs e.x e.y = -1 := by
        have hf := hfr.out k (lt_of_get he)
        rw [freeAt_eq he, decide_eq_true_eq] at hf
        rcases atI_cases hVH.out e.x e.y with ⟨_, h⟩ | ⟨i, t2, d, hp, _, _, _, _⟩
        · exact h
        · omega
      have hatH := Lib.hid hat
      have htk : ms.take (k + 1) = ms.take k ++ [e] := by
        obtain ⟨hi, rfl⟩ := List.getElem?_eq_some_iff.1 he
        exact List.take_succ_eq_append_getElem hi
      have htkH := Lib.hid htk
      clear hcB hat he htk
      go_wp2_with fail
      refine (at_at (hAH.out.below RPl.stable (hbw.out.trans (Below.mono (show Below wr.heap.size wr _ by exact bel_) hbw.out.size))) hVH.out hatH.out).mono ?_
      rintro e' w2 ⟨rfl, hb2⟩
      have d0 : w2.cell? ⟨wr.heap.size, 0, none⟩ = some (.int .i64 e.x) := (hb2.cell (p := ⟨wr.heap.size, 0, none⟩) (by simp)).trans (by go_simp)
      have d1 : w2.cell? ⟨wr.heap.size, 1, none⟩ = some (.int .i64 e.y) := (hb2.cell (p := ⟨wr.heap.size, 1, none⟩) (by simp)).trans (by go_simp)
      have d2 : w2.cell? ⟨wr.heap.size, 2, none⟩ = some (.int .i64 e.t) := (hb2.cell (p := ⟨wr.heap.size, 2, none⟩) (by simp)).trans (by go_simp)
      have hB2 : Below wr.heap.size wr w2 := by exact bel_
      have s2 := hB2.size
      have s3 : wr.heap.size < w2.heap.size := Nat.lt_of_lt_of_le (by simp) hb2.size
      replace ka := (hB2.cell (p := ⟨w.heap.size, 0, none⟩) l0).trans ka
      replace r0 := (hB2.cell (p := ⟨w.heap.size + 1 + 1, 0, none⟩) l2).trans r0
      replace rf := (hB2.frozen (p := ⟨w.heap.size + 1 + 1, 0, none⟩) l2).trans rf
      have hO2 := Lib.hid (ownsRow_below hO.out hB2)
      have hbw2 := Lib.hid (hbw.out.trans (Below.mono hB2 hbw.out.size))
      clear hb2 hB2 e0 e1 e2 hO hbw
      go_wp2_with (at_builtin; refine wpList_append_own _ rfl _ _ 24 rfl (w.heap.size + 3) 38 i2 (.agg #[.int .i64 0, .int .i64 0, .int .i64 0]) 3 24 Try.underlying24 hi2 hz02 hz12 hz22 rfl (by decide) _ _ _ rfl (hO2.out.alloc _) ⟨w2.heap.size, 0, none⟩ 1 1 [.int .i64 e.x, .int .i64 e.y, .int .i64 e.t] rfl rfl (cell_three_new _ _ _ _ _) (fun x hx => by simp at hx; rcases hx with rfl | rfl | rfl <;> rfl) (by unfold maxLen; omega) (by omega) (by simp; omega) ?_; intro v' w3 hown' hgrow _; obtain ⟨g', cap', rfl⟩ := ownsRow_succ hown'; have hX : Below (w.heap.size + 3) w2 w3 := ((Below.refl (w.heap.size + 3) w2).alloc (by omega) _).grown hgrow (by simp; omega) (fun b' hb' => (hO2.out.lt b' hb').1); replace ka := (hX.cell (p := ⟨w.heap.size, 0, none⟩) (by simp)).trans ka; replace r0 := (hX.cell (p := ⟨w.heap.size + 1 + 1, 0, none⟩) (by simp)).trans r0; replace rf := (hX.frozen (p := ⟨w.heap.size + 1 + 1, 0, none⟩) (by simp)).trans rf; have hown3 := Lib.hid hown'; have hbw3 := Lib.hid (hbw2.out.trans (hX.mono (by omega))); have s4 := hX.size; clear hown' hgrow hX)
      go_roundg (m - (k + 1))
      case measure => omega
      case rel => exact ⟨k + 1, _, _, by omega, by go_num, rfl, Lib.hid (by
          have := hown3.out
          rw [htkH.out, ← List.append_assoc, plCells_snoc]
          exact this), hbw3, by omega, ka, r0, rf⟩
    · obtain rfl : k = m := by omega
      have hLL : (xs ++ ms).length = n + k := by rw [List.length_append, hlA.out, hlC.out]
      have hO1 := hO.out
      rw [List.take_of_length_le (by have := hlC.out; omega), ← hLL] at hO1
      obtain ⟨A5, c5, hv, hrd⟩ := rdP_of_row hO1
      injection hv with h1 h2 h3
      subst h1
      rw [hLL] at hrd
      have hrdH := Lib.hid hrd
      have hsz : (sortPl (xs ++ ms)).length = n + k := by rw [sortPl_len, hLL]
      have hszH := Lib.hid hsz
      clear hO1 hrd hLL hsz
      go_wp2_with fail
      refine (assemblyOf_any _ _ _ (xs ++ ms) _ (hrdH.out.below RPl.stable (by exact bel_)) (by omega) (by omega) hap.out).mono ?_
      rintro e w2 ⟨B, c', rfl, hown2, hb2⟩
      rw [hszH.out] at hown2
      have hB2 : Below wr.heap.size wr w2 := by exact bel_
      have s2 := hB2.size
      replace r0 := (hB2.cell (p := ⟨w.heap.size + 1 + 1, 0, none⟩) l2).trans r0
      replace rf := (hB2.frozen (p := ⟨w.heap.size + 1 + 1, 0, none⟩) l2).trans rf
      have l2' : w.heap.size + 1 + 1 < w2.heap.size := by omega
      have hown2H := Lib.hid (ownsRow_baseU hown2 (show w.heap.size + 3 ≤ wr.heap.size by omega))
      have hbw2 := Lib.hid (hbw.out.trans (Below.mono hB2 hbw.out.size))
      clear hb2 hB2 hown2
      rw [hszH.out]
      go_wp2
      refine bodyPost_ret (v := .tuple #[.agg #[.slice B (n + k) c'], .bool true]) (by simp only [results, Try.results37]; go_simp) rfl ?_
      refine ⟨B, c', by rw [hszH.out], ?_, hbw2.out.setCell (p := ⟨w.heap.size + 1 + 1, 0, none⟩) (by simp; omega) _⟩
      rw [hszH.out]
      exact ownsRow_baseU (ownsRow_setCell_below hown2H.out (by simp) _) (by omega)
end Go.Proofs.Ytpnahobgmemdjaa
