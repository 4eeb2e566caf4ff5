import Derived.Test.YtedihnokcpnikaaGreatV1
import Derived.Test.YtedihnokcpnikaaGreatPSort
import Derived.Test.YtedihnokcpnikaaGreatQ4
import Derived.Test.YtedihnokcpnikaaGreatN1
import Derived.Test.YtedihnokcpnikaaGreatKO
import Derived.Test.YtedihnokcpnikaaGreatKH
import Derived.Test.YtedihnokcpnikaaGreatKU
import Derived.Test.YtedihnokcpnikaaGreatV3
import Derived.Test.YtedihnokcpnikaaGreatW74
set_option linter.unusedSimpArgs false
set_option linter.unusedVariables false
/- Plain facts: the vectors by which tiles of two assemblies make a bond; those by which they can be put together. -/


namespace Go.Proofs.YtedihnokcpnikaaGreat
open Go.RowKit
/-- the vectors of one tile, one direction and some tiles -/
noncomputable def vecK (gs : List Gl) (ts : List Ti) (e : Pl) (d : Nat) (us : List Pl) : List Pt :=
  (us.filter fun u => decide (0 < bondI gs ts e.t.toNat d u.t.toNat)).map fun u => ⟨stepX e.x (d : Int) - u.x, stepY e.y (d : Int) - u.y⟩
noncomputable def vecD (gs : List Gl) (ts : List Ti) (e : Pl) (us : List Pl) (D : Nat) : List Pt := ((List.range D).map fun d => vecK gs ts e d us).flatten
noncomputable def vecI (gs : List Gl) (ts : List Ti) (xs us : List Pl) (I : Nat) : List Pt := ((xs.take I).map fun e => vecD gs ts e us 4).flatten
section
variable {gs : List Gl} {ts : List Ti} {xs us : List Pl} {e u : Pl} {d k i : Nat} {b : Int}
theorem vecK_zero : vecK gs ts e d [] = [] := rfl
theorem vecD_zero : vecD gs ts e us 0 = [] := rfl
theorem vecI_zero : vecI gs ts xs us 0 = [] := rfl
theorem vecK_yes (h : us[k]? = some u) (hb : bondI gs ts e.t.toNat d u.t.toNat = b) (h0 : 0 < b) : vecK gs ts e d (us.take (k + 1)) = vecK gs ts e d (us.take k) ++ [⟨stepX e.x (d : Int) - u.x, stepY e.y (d : Int) - u.y⟩] := by
  obtain ⟨hk, rfl⟩ := List.getElem?_eq_some_iff.1 h
  unfold vecK
  rw [List.take_succ_eq_append_getElem hk, List.filter_append, List.map_append]
  simp [hb, h0]
theorem vecK_no (h : us[k]? = some u) (hb : bondI gs ts e.t.toNat d u.t.toNat = b) (h0 : ¬ 0 < b) : vecK gs ts e d (us.take (k + 1)) = vecK gs ts e d (us.take k) := by
  obtain ⟨hk, rfl⟩ := List.getElem?_eq_some_iff.1 h
  unfold vecK
  rw [List.take_succ_eq_append_getElem hk, List.filter_append, List.map_append]
  simp [hb, h0]
theorem vecD_succ : vecD gs ts e us (d + 1) = vecD gs ts e us d ++ vecK gs ts e d us := by
  unfold vecD
  rw [List.range_succ, List.map_append, List.flatten_append]
  simp
theorem vecI_succ (h : xs[i]? = some e) : vecI gs ts xs us (i + 1) = vecI gs ts xs us i ++ vecD gs ts e us 4 := by
  obtain ⟨hi, rfl⟩ := List.getElem?_eq_some_iff.1 h
  unfold vecI
  rw [List.take_succ_eq_append_getElem hi, List.map_append, List.flatten_append]
  simp
theorem vecK_len : (vecK gs ts e d us).length ≤ us.length := by
  unfold vecK
  rw [List.length_map]
  exact List.length_filter_le _ _
theorem vecK_lenk : (vecK gs ts e d (us.take k)).length ≤ k := Nat.le_trans vecK_len (List.length_take_le _ _)
theorem vecD_len (hu : us.length ≤ 500) : (vecD gs ts e us d).length ≤ 500 * d := by
  induction d with
  | zero => simp [vecD_zero]
  | succ d ih =>
    rw [vecD_succ, List.length_append]
    have := vecK_len (gs := gs) (ts := ts) (e := e) (d := d) (us := us)
    omega
theorem vecI_len (hu : us.length ≤ 500) : (vecI gs ts xs us i).length ≤ 2000 * i := by
  induction i with
  | zero => simp [vecI_zero]
  | succ i ih =>
    by_cases hi : i < xs.length
    · rw [vecI_succ (List.getElem?_eq_getElem hi), List.length_append]
      have := vecD_len (gs := gs) (ts := ts) (e := xs[i]) (us := us) (d := 4) hu
      omega
    · have h1 : vecI gs ts xs us (i + 1) = vecI gs ts xs us i := by
        unfold vecI
        rw [List.take_of_length_le (by omega), List.take_of_length_le (by omega)]
      rw [h1]; omega
end
/-- all of them, in order and once -/
noncomputable def vecsP (gs : List Gl) (ts : List Ti) (xs ys : List Pl) : List Pt := putAll [] (vecI gs ts xs ys xs.length)
/-- those that work -/
noncomputable def okV (gs : List Gl) (ts : List Ti) (xs ys : List Pl) (t : Int) (p : Pt) : Bool := decide ((combE gs ts xs ys t p.x p.y).2 = 0)
noncomputable def keepV (gs : List Gl) (ts : List Ti) (xs ys : List Pl) (t : Int) (k : Nat) : List Pt := ((vecsP gs ts xs ys).take k).filter (okV gs ts xs ys t)
noncomputable def combosR (gs : List Gl) (ts : List Ti) (xs ys : List Pl) (t : Int) : List Pt × Int :=
  if askJ gs ts xs ys = false then ([], 1) else if inB t 1 16 = false then ([], 2) else (keepV gs ts xs ys t (vecsP gs ts xs ys).length, 0)
theorem keepV_yes {gs : List Gl} {ts : List Ti} {xs ys : List Pl} {t : Int} {k : Nat} {p : Pt} (h : (vecsP gs ts xs ys)[k]? = some p) (ho : (combE gs ts xs ys t p.x p.y).2 = 0) : keepV gs ts xs ys t (k + 1) = keepV gs ts xs ys t k ++ [p] := by
  obtain ⟨hk, rfl⟩ := List.getElem?_eq_some_iff.1 h
  unfold keepV
  rw [List.take_succ_eq_append_getElem hk, List.filter_append]
  simp [okV, ho]
theorem keepV_no {gs : List Gl} {ts : List Ti} {xs ys : List Pl} {t : Int} {k : Nat} {p : Pt} (h : (vecsP gs ts xs ys)[k]? = some p) (ho : ¬ (combE gs ts xs ys t p.x p.y).2 = 0) : keepV gs ts xs ys t (k + 1) = keepV gs ts xs ys t k := by
  obtain ⟨hk, rfl⟩ := List.getElem?_eq_some_iff.1 h
  unfold keepV
  rw [List.take_succ_eq_append_getElem hk, List.filter_append]
  simp [okV, ho]
theorem keepV_len {gs : List Gl} {ts : List Ti} {xs ys : List Pl} {t : Int} {k : Nat} : (keepV gs ts xs ys t k).length ≤ k := Nat.le_trans (List.length_filter_le _ _) (List.length_take_le _ _)
theorem putP_len2 (L : List Pt) (x y : Int) : (putP L x y).length ≤ L.length + 1 := by
  unfold putP
  simp only []
  split <;> simp <;> omega
theorem putAll_len2 (ps : List Pt) : ∀ L : List Pt, (putAll L ps).length ≤ L.length + ps.length := by
  induction ps with
  | nil => intro L; exact Nat.le_refl _
  | cons p ps ih =>
    intro L
    have h1 := ih (putP L p.x p.y)
    have h2 := putP_len2 L p.x p.y
    show (putAll (putP L p.x p.y) ps).length ≤ _
    simp only [List.length_cons]; omega
theorem vecsP_len {gs : List Gl} {ts : List Ti} {xs ys : List Pl} (hx : xs.length ≤ 500) (hy : ys.length ≤ 500) : (vecsP gs ts xs ys).length ≤ 1000000 := by
  have h1 := putAll_len2 (vecI gs ts xs ys xs.length) []
  have h2 := vecI_len (gs := gs) (ts := ts) (xs := xs) (us := ys) (i := xs.length) hy
  unfold vecsP
  simp only [List.length_nil] at h1
  omega
theorem combosR_len (gs : List Gl) (ts : List Ti) (xs ys : List Pl) (t : Int) : (combosR gs ts xs ys t).1.length ≤ 1073741824 := by
  unfold combosR
  split
  · simp
  · rename_i h
    split
    · simp
    · have h3 : validAsmB gs ts xs = true ∧ validAsmB gs ts ys = true := by
        cases h2 : askJ gs ts xs ys
        · exact absurd h2 h
        · unfold askJ at h2; simpa using h2
      have h1 := keepV_len (gs := gs) (ts := ts) (xs := xs) (ys := ys) (t := t) (k := (vecsP gs ts xs ys).length)
      have h2 := vecsP_len (gs := gs) (ts := ts) (valid_of h3.1).len (valid_of h3.2).len
      simp only
      omega
/-- a box that holds a placed tile -/
def EBx (w : World) (b : Nat) (e : Pl) : Prop := w.heap[b]? = some (.cells #[.int .i64 e.x, .int .i64 e.y, .int .i64 e.t] 127)
theorem EBx.new (w : World) (e : Pl) : EBx (w.alloc (Obj.cells #[.int .i64 e.x, .int .i64 e.y, .int .i64 e.t] 127)) w.heap.size e := by
  exact World.alloc_heap_new _ _
theorem EBx.lt {w : World} {b : Nat} {e : Pl} (h : EBx w b e) : b < w.heap.size := (Array.getElem?_eq_some_iff.1 h).1
theorem EBx.below {w w' : World} {b : Nat} {e : Pl} (h : EBx w b e) (hb : Below w.heap.size w w') : EBx w' b e := (hb.block b h.lt).trans h
theorem EBx.grown {w w' : World} {b : Nat} {e : Pl} {base n : Nat} {v : Value} {xs : List Value} (h : EBx w b e) (hr : w.ownsRow base 44 2 v n xs) (hg : w.grownBy w' v.ownBlock) : EBx w' b e := by
  have hne : some b ≠ v.ownBlock := by
    intro hc
    rcases hr.2 with ⟨rfl, _⟩ | ⟨g, cap, cur, rfl, _, hh, _⟩
    · cases hc
    · have hg2 : some b = some g := hc
      injection hg2 with hg2
      subst hg2
      have := Option.some.inj (hh.symm.trans h)
      injection this with _ h3
      exact absurd h3 (by decide)
  exact (hg.block b h.lt hne).trans h
theorem EBx.c0 {w : World} {b : Nat} {e : Pl} (h : EBx w b e) : w.cell? ⟨b, 0, none⟩ = some (.int .i64 e.x) := by unfold EBx at h; simp [World.cell?, h]
theorem EBx.c1 {w : World} {b : Nat} {e : Pl} (h : EBx w b e) : w.cell? ⟨b, 1, none⟩ = some (.int .i64 e.y) := by unfold EBx at h; simp [World.cell?, h]
theorem EBx.c2 {w : World} {b : Nat} {e : Pl} (h : EBx w b e) : w.cell? ⟨b, 2, none⟩ = some (.int .i64 e.t) := by unfold EBx at h; simp [World.cell?, h]
end Go.Proofs.YtedihnokcpnikaaGreat
/- slices.SortFunc at rows of placed tiles that a call has made. -/


namespace Go.Proofs.YtedihnokcpnikaaGreat
open Go.RowKit Go.Shelf Go.Lib Go.Sort
attribute [local go_sem] BelowBy.cell BelowBy.cell_drew stillUpon givesUpon

set_option maxRecDepth 100000
def mkPl (f : Pt → Int) (p : Pt) : Pl := ⟨p.x, p.y, f p⟩
def encPl (f : Pt → Int) (p : Pt) : List Value := [.int .i64 p.x, .int .i64 p.y, .int .i64 (f p)]
def tileOf (L : List Pl) (p : Pt) : Int := match L.find? (fun e => decide (e.x = p.x ∧ e.y = p.y)) with
  | some e => e.t
  | none => 0
def ptOf (e : Pl) : Pt := ⟨e.x, e.y⟩
theorem tileOf_mem {L : List Pl} (h : L.Pairwise apart) : ∀ e ∈ L, tileOf L (ptOf e) = e.t := by
  induction L with
  | nil => intro e he; simp at he
  | cons d l ih =>
    obtain ⟨h1, h2⟩ := List.pairwise_cons.1 h
    intro e he
    unfold tileOf
    rw [List.find?_cons]
    rcases List.mem_cons.1 he with rfl | he
    · simp [ptOf]
    · have h3 : ¬ (d.x = e.x ∧ d.y = e.y) := h1 e he
      have h4 : decide (d.x = (ptOf e).x ∧ d.y = (ptOf e).y) = false := decide_eq_false h3
      rw [h4]
      exact ih h2 e he
theorem mk_ptOf {L : List Pl} (h : L.Pairwise apart) : (L.map ptOf).map (mkPl (tileOf L)) = L := by
  rw [List.map_map]
  have : ∀ e ∈ L, (mkPl (tileOf L) ∘ ptOf) e = e := fun e he => by
    have := tileOf_mem h e he
    simp only [Function.comp, mkPl, this]
    cases e; rfl
  rw [List.map_congr_left this, List.map_id'']
  intro x; rfl
theorem sort_ptOf {L : List Pl} (h : L.Pairwise apart) : (sortP (L.map ptOf)).map (mkPl (tileOf L)) = sortPl L := by
  have hp : ((sortP (L.map ptOf)).map (mkPl (tileOf L))).Perm L := by
    have h1 : ((sortP (L.map ptOf)).map (mkPl (tileOf L))).Perm ((L.map ptOf).map (mkPl (tileOf L))) := (List.mergeSort_perm _ _).map _
    rw [mk_ptOf h] at h1
    exact h1
  refine List.Perm.eq_of_pairwise (le := fun a b => ltPl a b = true) ?_ ?_ (sortPl_strict h) (hp.trans (List.mergeSort_perm _ _).symm)
  · intro a b _ _ h1 h2
    rw [ltPl_iff] at h1 h2; omega
  · have h1 : ((sortP (L.map ptOf)).map (mkPl (tileOf L))).Pairwise apart := hp.symm.pairwise h apart_symm
    have h2 : ((sortP (L.map ptOf)).map (mkPl (tileOf L))).Pairwise (fun a b => lePl a b = true) := by
      rw [List.pairwise_map]
      have hs : (sortP (L.map ptOf)).Pairwise (fun a b => (!(ltOf cmpP) b a) = true) := by
        refine List.pairwise_mergeSort ?_ ?_ _
        · intro a b c h1 h2
          have := swo_cmpP.ntrans (x := c) (y := b) (z := a) (by simpa using h2) (by simpa using h1)
          simp [this]
        · intro a b
          cases h1 : ltOf cmpP a b
          · simp
          · have := (swo_cmpP.asymm h1)
            simp [this]
      refine hs.imp ?_
      intro a b h
      rw [ltOf_cmpP] at h
      exact h
    refine (List.Pairwise.and h1 h2).imp ?_
    intro a b hab
    have h3 := (lePl_iff a b).1 hab.2
    have h4 : ¬ (a.x = b.x ∧ a.y = b.y) := hab.1
    rw [ltPl_iff]; omega
theorem flat_pl (f : Pt → Int) (L : List Pt) : (flatK (encPl f) 3 L.toArray).toList = plCells (L.map (mkPl f)) := by
  apply List.ext_getElem?
  intro t
  rw [Array.getElem?_toList]
  by_cases ht : t < L.length * 3
  · have hs : t < (flatK (encPl f) 3 L.toArray).size := by rw [size_flatK]; simpa using ht
    have h1 : (flatK (encPl f) 3 L.toArray)[t]? = some (flatK (encPl f) 3 L.toArray)[t]! := by rw [getElem!_pos _ t hs, Array.getElem?_eq_getElem hs]
    rw [h1, get_flatK _ _ _ _ (by simpa using ht)]
    have hq : t / 3 < L.length := by omega
    have hg := plCells_get (L.map (mkPl f)) (t / 3) (mkPl f L[t / 3]) (by rw [List.getElem?_map, List.getElem?_eq_getElem hq]; rfl)
    have he : L.toArray[t / 3]! = L[t / 3] := by rw [getElem!_pos _ _ (by simpa using hq)]; simp
    rw [he]
    rcases (show t % 3 = 0 ∨ t % 3 = 1 ∨ t % 3 = 2 by omega) with hm | hm | hm
    · rw [hm]
      have : t / 3 * 3 = t := by omega
      rw [this] at hg
      rw [hg.1]; rfl
    · rw [hm]
      have : t / 3 * 3 + 1 = t := by omega
      rw [this] at hg
      rw [hg.2.1]; rfl
    · rw [hm]
      have : t / 3 * 3 + 2 = t := by omega
      rw [this] at hg
      rw [hg.2.2]; rfl
  · rw [Array.getElem?_eq_none (by rw [size_flatK]; simpa using ht), List.getElem?_eq_none (by rw [plCells_len, List.length_map]; omega)]
theorem holds_rowPl {f : Pt → Int} {w : World} {g : Nat} {cur : Array Value} {e : TypeId} {L : List Pt} (hb : w.heap[g]? = some (.cells cur e (0, 0))) (ht : cur.toList.take (L.length * 3) = plCells (L.map (mkPl f))) : HoldsK (encPl f) 3 w g 0 L.toArray := by
  intro j hj
  rw [size_flatK] at hj
  have hj' : j < L.length * 3 := by simpa using hj
  refine ⟨?_, by simp [World.frozen?, hb]⟩
  have h1 : (cur.toList.take (L.length * 3))[j]? = (plCells (L.map (mkPl f)))[j]? := by rw [ht]
  rw [List.getElem?_take_of_lt hj', ← flat_pl, Array.getElem?_toList, Array.getElem?_toList] at h1
  have hs : j < (flatK (encPl f) 3 L.toArray).size := by rw [size_flatK]; simpa using hj'
  simp only [World.cell?, hb, Nat.zero_add]
  simp only [Option.isSome_none, Bool.false_eq_true, if_false, id]
  rw [h1, getElem!_pos _ j hs, Array.getElem?_eq_getElem hs]
theorem heap_sortedPl {f : Pt → Int} {w : World} {g n : Nat} {os : Array Obj} {cur : Array Value} {e : TypeId} {fr : Nat × Nat} (d : Array Pt) (hb : w.heap[g]? = some (.cells cur e fr)) :
    (sortWorldK (encPl f) 3 w g 0 n d os).heap[g]? = some (.cells (putCells id 0 (flatK (encPl f) 3 d) cur) e fr) := by
  have hg : g < w.heap.size := (Array.getElem?_eq_some_iff.1 hb).1
  unfold sortWorldK putRowK
  rw [heap_grow_old _ _ (by simpa using hg)]
  simp [putRow, mapBlock, Sort.ahead, Array.getElem?_modify, hb, onCells]
theorem grownBy_sortedPl {f : Pt → Int} {w : World} {g n : Nat} {os : Array Obj} (d : Array Pt) : w.grownBy (sortWorldK (encPl f) 3 w g 0 n d os) (some g) := by
  refine ⟨rfl, rfl, rfl, by simp [sortWorldK, putRowK], fun k hk hne => ?_⟩
  unfold sortWorldK putRowK
  rw [heap_grow_old _ _ (by simpa using hk)]
  have : g ≠ k := fun e => hne (by rw [e])
  simp [putRow, mapBlock, Sort.ahead, Array.getElem?_modify, this]
theorem take_putPl (f : Pt → Int) (cur : Array Value) (L : List Pt) (h : L.length * 3 ≤ cur.size) : (putCells id 0 (flatK (encPl f) 3 L.toArray) cur).toList.take (L.length * 3) = plCells (L.map (mkPl f)) := by
  rw [← flat_pl]
  apply List.ext_getElem?
  intro j
  by_cases hj : j < L.length * 3
  · have hs : j < (flatK (encPl f) 3 L.toArray).size := by rw [size_flatK]; simpa using hj
    rw [List.getElem?_take_of_lt hj, Array.getElem?_toList, Array.getElem?_toList]
    simp only [putCells, Array.getElem?_mapIdx, Nat.zero_le, Nat.zero_add, true_and, Nat.sub_zero]
    rw [Array.getElem?_eq_getElem (show j < cur.size by omega)]
    simp only [Option.map_some, id]
    rw [if_pos hs, getElem!_pos _ j hs, Array.getElem?_eq_getElem hs]
  · rw [List.getElem?_take_eq_none (by omega), Array.getElem?_toList, Array.getElem?_eq_none (by rw [size_flatK]; simpa using hj)]
theorem assemblyLess_exact (f : Pt → Int) (x y : Pt) (w : World) :
    Calls Tryz.prog 145 #[.agg #[.int .i64 x.x, .int .i64 x.y, .int .i64 (f x)], .agg #[.int .i64 y.x, .int .i64 y.y, .int .i64 (f y)]] w fun e w' => e = .returned (.int .i64 (cmpP x y)) ∧ ∃ q os, w' = grow (w.drewN q) os := by
  go_enter Tryz.func145, Tryz.ntmps145
  go_wp2_with fail
  refine (comparePoints_exact x y _).mono ?_
  rintro e w1 ⟨rfl, q, os, rfl⟩
  go_wp2
  go_ret
  refine ⟨rfl, ?_⟩
  have hdg : ∀ (w : World) (os : Array Obj), (grow w os).drewN q = grow (w.drewN q) os := fun w os => rfl
  simp only [alloc_eq_grow, drew_grow, grow_grow, hdg, World.drew_is_drewN, World.drewN_drewN]
  exact ⟨_, _, rfl⟩
set_option maxHeartbeats 1000000 in
theorem SortFuncPl_any (L : List Pl) (hap : L.Pairwise apart) (B g cap : Nat) (w : World) (hrow : w.ownsRow B 127 3 (.slice (some ⟨g, 0, none⟩) L.length cap) L.length (plCells L)) (hl : L.length ≤ 1000000) :
    Calls Tryz.prog 144 #[.slice (some ⟨g, 0, none⟩) L.length cap, .func (.func 145) #[] #[]] w fun e w' => e = .returned (.tuple #[]) ∧
      w'.ownsRow B 127 3 (.slice (some ⟨g, 0, none⟩) L.length cap) L.length (plCells (sortPl L)) ∧ w.grownBy w' (some g) := by
  rcases hrow with ⟨hcl, h0 | ⟨g', cap', cur, hv, hB, hb, h1, h2, h3, h4⟩⟩
  · cases h0.1
  cases hv
  have hmk := mk_ptOf hap
  have hso := sort_ptOf hap
  obtain ⟨P, hP⟩ : ∃ P, L.map ptOf = P := ⟨_, rfl⟩
  obtain ⟨f, hf⟩ : ∃ f, tileOf L = f := ⟨_, rfl⟩
  rw [hP, hf] at hmk hso
  have hPl : P.length = L.length := by rw [← hP, List.length_map]
  have eg : ∀ args w, (callFunc 145 args).run Tryz.prog w = .ok (.enter 145 args) w := enters_of Tryz.func145 (by kernel_rfl) rfl
  rw [← hmk, List.length_map] at h4
  have hH := holds_rowPl (f := f) hb h4
  have hgl := (Array.getElem?_eq_some_iff.1 hb).1
  have hcon := AnyQ.slices_SortFunc_total Tryz.sortPl 3 Tryz.isAgg127 Tryz.sizeOf127 (encPl f) (fun _ => rfl) (fun x v hv => by simp [encPl] at hv; rcases hv with rfl | rfl | rfl <;> rfl) cmpP swo_cmpP 145 #[] g 0 cap P.toArray w eg
    (fun _ _ _ _ x y => assemblyLess_exact f x y _) hH hgl (by simp; omega) part_cmpP
  have hPs : P.toArray.size = L.length := by simpa using hPl
  rw [hPs] at hcon
  refine hcon.mono ?_
  rintro e w' ⟨he, n, os, rfl⟩
  refine ⟨he, ?_, grownBy_sortedPl _⟩
  have hsl := sortPl_len L
  refine ⟨by rw [plCells_len, hsl], .inr ⟨g, cap, _, rfl, hB, heap_sortedPl _ hb, h1, h2, by simp [putCells, h3], ?_⟩⟩
  have := take_putPl f cur (sortP P) (by rw [sortP_len, hPl, h3]; exact Nat.mul_le_mul_right 3 h1)
  rw [sortP_len, hPl, hso] at this
  exact this
end Go.Proofs.YtedihnokcpnikaaGreat
/- Walks: what a pair of hands asks of a set, a temperature and assemblies. -/

namespace Go.Proofs.YtedihnokcpnikaaGreat
open Go.RowKit Go.Shelf
attribute [local go_sem] BelowBy.cell BelowBy.cell_drew stillUpon givesUpon BelowBy.cell_drew2 BelowBy.cell_drew3

/-- a set is read -/
structure TS (w : World) (G : Option Addr) (n : Nat) (T : Option Addr) (m : Nat) (gs : List Gl) (ts : List Ti) : Prop where
  G : RdSl 2 RGl w G n gs
  T : RdSl 2 RTi w T m ts
  gm : n ≤ 1073741824
  tm : m ≤ 1073741824
  gn : ∀ (k : Nat) (e : Gl), gs[k]? = some e → e.name.size ≤ 9223372036854775807
  tn : ∀ (k : Nat) (e : Ti), ts[k]? = some e → e.name.size ≤ 9223372036854775807 ∧ e.sides.length ≤ 9223372036854775807
section
variable {w w' : World} {G T A : Option Addr} {n cg m ct q ca : Nat} {gs : List Gl} {ts : List Ti} {xs : List Pl}
theorem TS.below (h : TS w G n T m gs ts) (hb : Below w.heap.size w w') : TS w' G n T m gs ts :=
  ⟨h.G.below RGl.stable hb, h.T.below RTi.stable hb, h.gm, h.tm, h.gn, h.tn⟩
theorem TS.sa (h : TS w G n T m gs ts) (hA : RdSl 3 RPl w A q xs) (hq : q ≤ 1073741824) : SA w G n T m A q gs ts xs := ⟨h.G, h.T, hA, h.gm, h.tm, hq, h.gn, h.tn⟩
theorem SA.toTS (h : SA w G n T m A q gs ts xs) : TS w G n T m gs ts := ⟨h.G, h.T, h.gm, h.tm, h.gn, h.tn⟩
theorem TS.valid {v : Bool} (h : TS w G n T m gs ts) (hv : validSetB gs ts = v) :
    Calls Tryz.prog 71 #[.agg #[.slice G n cg, .slice T m ct]] w fun e w' => e = .returned (.bool v) ∧ Below w.heap.size w w' := by
  rw [← hv]; exact ValidSet_any _ _ _ _ _ _ gs ts _ h.G h.T (Nat.le_trans h.gm (by decide)) (Nat.le_trans h.tm (by decide)) h.gn h.tn
end
/-- a block of assemblies -/
def LRow (w : World) (g : Nat) (Ls : List (List Pl)) : Prop := g < w.heap.size ∧ ∀ (k : Nat) (l : List Pl), Ls[k]? = some l → ∃ A q c, w.cell? ⟨g, k, none⟩ = some (.slice A q c) ∧ RdSl 3 RPl w A q l ∧ q ≤ 1073741824
theorem LRow.below {w w' : World} {g : Nat} {Ls : List (List Pl)} (h : LRow w g Ls) (hb : Below w.heap.size w w') : LRow w' g Ls := by
  refine ⟨Nat.lt_of_lt_of_le h.1 hb.size, fun k l hk => ?_⟩
  obtain ⟨A, q, c, h1, h2, h3⟩ := h.2 k l hk
  exact ⟨A, q, c, (hb.cell (p := ⟨g, k, none⟩) h.1).trans h1, h2.below RPl.stable hb, h3⟩
theorem isTempH_any (t : Int) (w : World) : Calls Tryz.prog 75 #[.int .i64 t] w fun e w' => e = .returned (.bool (inB t 1 16)) ∧ w = w' := by
  go_enter Tryz.func75, Tryz.ntmps75
  go_wp2_with (go_at_call 113; refine (within_any _ _ _ _).mono ?_; rintro e w' ⟨rfl, rfl⟩)
  go_ret
  exact ⟨ret_bool rfl, rfl⟩
theorem isTempH_at {t : Int} {v : Bool} {w : World} (h : inB t 1 16 = v) : Calls Tryz.prog 75 #[.int .i64 t] w fun e w' => e = .returned (.bool v) ∧ w = w' := by
  rw [← h]; exact isTempH_any t w
/-- the box of a pair of hands -/
structure HBox (w : World) (p : Nat) (G : Option Addr) (n : Nat) (T : Option Addr) (m : Nat) (gs : List Gl) (ts : List Ti) : Prop where
  lt : p < w.heap.size
  c0 : ∃ cg, w.cell? ⟨p, 0, none⟩ = some (.slice G n cg)
  c1 : ∃ ct, w.cell? ⟨p, 1, none⟩ = some (.slice T m ct)
  ts : TS w G n T m gs ts
theorem HBox.below {w w' : World} {p : Nat} {G T : Option Addr} {n m : Nat} {gs : List Gl} {ts : List Ti} (h : HBox w p G n T m gs ts) (hb : Below w.heap.size w w') : HBox w' p G n T m gs ts := by
  obtain ⟨cg, h0⟩ := h.c0
  obtain ⟨ct, h1⟩ := h.c1
  exact ⟨Nat.lt_of_lt_of_le h.lt hb.size, ⟨cg, (hb.cell (p := ⟨p, 0, none⟩) h.lt).trans h0⟩, ⟨ct, (hb.cell (p := ⟨p, 1, none⟩) h.lt).trans h1⟩, h.ts.below hb⟩
set_option maxRecDepth 100000 in
theorem handsCode1_at {p : Nat} {G T A : Option Addr} {n m q ca : Nat} {gs : List Gl} {ts : List Ti} {xs : List Pl} {v u : Bool} {w : World} (h : HBox w p G n T m gs ts) (hA : RdSl 3 RPl w A q xs) (hq : q ≤ 1073741824) (hv : validAsmB gs ts xs = v) (hu : (!v) = u) :
    Calls Tryz.prog 73 #[.agg #[.slice A q ca], .pointer (some ⟨p, 0, none⟩)] w fun e w' => e = .returned (.bool u) ∧ Below w.heap.size w w' := by
  subst hu
  obtain ⟨cg, h0⟩ := h.c0
  obtain ⟨ct, h1⟩ := h.c1
  have hp := h.lt
  have hS := Lib.hid (h.ts.sa hA hq)
  have hvH := Lib.hid hv
  clear h hA hv
  go_enter Tryz.func73, Tryz.ntmps73
  go_wp2_with (go_at_call 74; refine (SA.valid (hS.out.below (by exact bel_)) hvH.out).mono ?_; rintro e w1 ⟨rfl, hb1⟩; have hb1H := Lib.hid (show Below w.heap.size w w1 by exact bel_); clear hb1)
  go_ret
  exact ⟨rfl, hb1H.out⟩
def okL (gs : List Gl) (ts : List Ti) (Ls : List (List Pl)) (k : Nat) : Bool := match Ls[k]? with
  | some l => validAsmB gs ts l
  | none => true
theorem okL_eq {gs : List Gl} {ts : List Ti} {Ls : List (List Pl)} {k : Nat} {l : List Pl} (h : Ls[k]? = some l) : okL gs ts Ls k = validAsmB gs ts l := by unfold okL; rw [h]
set_option maxRecDepth 100000 in
set_option maxHeartbeats 1000000 in
theorem IndexFuncA_any {p g N c : Nat} {G T : Option Addr} {n m : Nat} {gs : List Gl} {ts : List Ti} {Ls : List (List Pl)} {w : World} (h : HBox w p G n T m gs ts) (hL : LRow w g Ls) (hN : N = Ls.length) (hn : N ≤ 1073741824) :
    Calls Tryz.prog 117 #[.slice (some ⟨g, 0, none⟩) N c, .func (.func 73) #[] #[.pointer (some ⟨p, 0, none⟩)]] w (FirstRes w N (okL gs ts Ls)) := by
  have hH := Lib.hid h
  have hLH := Lib.hid hL
  have hNH := Lib.hid hN
  clear h hL hN
  go_enter Tryz.func117, Tryz.ntmps117
  go_wp2
  go_loopg [8] N (fun r x wr => ∃ k : Nat, k + r = N ∧ x = .int .i64 k ∧ Hid (∀ j, j < k → okL gs ts Ls j = true) ∧ Hid (Below w.heap.size w wr))
  case atStart => exact ⟨0, by omega, rfl, Lib.hid (fun j hj => by omega), Lib.hid (by exact bel_)⟩
  case round =>
    obtain ⟨k, hk, rfl, hok, hbw⟩ := hrel
    by_cases hkn : k < N
    · obtain ⟨l, hl⟩ : ∃ l, Ls[k]? = some l := ⟨_, List.getElem?_eq_getElem (by have := hNH.out; omega)⟩
      obtain ⟨A, q, ca, a0, a1, a2⟩ := (hLH.out.below hbw.out).2 k l hl
      have hgw := (hLH.out.below hbw.out).1
      have hlH := Lib.hid hl
      have a1H := Lib.hid a1
      clear hl a1
      cases hv : validAsmB gs ts l
      all_goals
        have hvH := Lib.hid hv
        clear hv
        go_wp2_with (go_at_call 73; refine (handsCode1_at ((hH.out.below hbw.out).below (by exact bel_)) (a1H.out.below RPl.stable (by exact bel_)) a2 hvH.out rfl).mono ?_; rintro e w1 ⟨rfl, hb1⟩; have hb1H := Lib.hid (show Below wr.heap.size wr w1 by exact bel_); clear hb1)
      · go_ret
        exact ⟨_, rfl, by rw [allB_false hkn (by rw [okL_eq hlH.out]; exact hvH.out)]; simp, hbw.out.trans (hb1H.out.mono hbw.out.size)⟩
      · go_roundg (N - (k + 1))
        case measure => omega
        case rel => exact ⟨k + 1, by omega, by go_num, Lib.hid (fun j hj => by
            rcases Nat.lt_succ_iff_lt_or_eq.1 hj with hj | rfl
            · exact hok.out j hj
            · rw [okL_eq hlH.out]; exact hvH.out), Lib.hid (hbw.out.trans (hb1H.out.mono hbw.out.size))⟩
    · obtain rfl : k = N := by omega
      go_wp2
      go_ret
      exact ⟨_, rfl, by rw [allB_true hok.out]; simp, hbw.out⟩
set_option maxRecDepth 100000 in
set_option maxHeartbeats 1000000 in
theorem ContainsFuncA_at {p g N c : Nat} {G T : Option Addr} {n m : Nat} {gs : List Gl} {ts : List Ti} {Ls : List (List Pl)} {v u : Bool} {w : World} (h : HBox w p G n T m gs ts) (hL : LRow w g Ls) (hN : N = Ls.length) (hn : N ≤ 1073741824) (hv : allB N (okL gs ts Ls) = v) (hu : (!v) = u) :
    Calls Tryz.prog 72 #[.slice (some ⟨g, 0, none⟩) N c, .func (.func 73) #[] #[.pointer (some ⟨p, 0, none⟩)]] w fun e w' => e = .returned (.bool u) ∧ Below w.heap.size w w' := by
  subst hu
  subst hv
  have hH := Lib.hid h
  have hLH := Lib.hid hL
  have hNH := Lib.hid hN
  clear h hL hN
  go_enter Tryz.func72, Tryz.ntmps72
  go_wp2_with (go_at_call 117; refine (IndexFuncA_any (hH.out.below (by exact bel_)) (hLH.out.below (by exact bel_)) hNH.out hn).mono ?_; rintro e w1 ⟨r, rfl, hr, hb1⟩)
  go_ret
  refine ⟨rfl, ?_⟩
  exact bel_
def codeH (gs : List Gl) (ts : List Ti) (Ls : List (List Pl)) (t : Int) : Int :=
  if (validSetB gs ts && allB Ls.length (okL gs ts Ls)) = false then 1 else if inB t 1 16 = false then 2 else 0
set_option maxRecDepth 100000 in
set_option maxHeartbeats 1000000 in
theorem handsCode_any {g N c : Nat} {G T : Option Addr} {n cg m ct : Nat} {gs : List Gl} {ts : List Ti} {Ls : List (List Pl)} {t : Int} {w : World} (h : TS w G n T m gs ts) (hL : LRow w g Ls) (hN : N = Ls.length) (hn : N ≤ 1073741824) :
    Calls Tryz.prog 39 #[.agg #[.slice G n cg, .slice T m ct, .int .i64 t], .slice (some ⟨g, 0, none⟩) N c] w fun e w' => e = .returned (.int .i64 (codeH gs ts Ls t)) ∧ Below w.heap.size w w' := by
  have hB : Hid (HBox (w.alloc (Obj.cells #[.slice G n cg, .slice T m ct, .int .i64 t] 84)) w.heap.size G n T m gs ts) :=
    Lib.hid ⟨by simp, ⟨cg, by go_simp⟩, ⟨ct, by go_simp⟩, h.below (by exact bel_)⟩
  have hH := Lib.hid h
  have hNH := Lib.hid hN
  have hLH := Lib.hid (hL.below (show Below w.heap.size w (w.alloc (Obj.cells #[.slice G n cg, .slice T m ct, .int .i64 t] 84)) by exact bel_))
  clear h hL hN
  cases hs : validSetB gs ts
  · have hR := Lib.hid (show codeH gs ts Ls t = 1 from if_pos (by rw [hs]; rfl))
    have hsH := Lib.hid hs
    clear hs
    go_enter Tryz.func39, Tryz.ntmps39
    go_wp2_with (go_at_call 71; refine (TS.valid (hH.out.below (by exact bel_)) hsH.out).mono ?_; rintro e w1 ⟨rfl, hb1⟩; obtain ⟨chb1, fhb1, shb1, thb1⟩ := bcell hb1; have s1 := shb1 w.heap.size (by go_simp))
    go_ret
    exact ⟨ret_int hR.out.symm, by exact bel_⟩
  · cases ho : allB N (okL gs ts Ls)
    · have hR := Lib.hid (show codeH gs ts Ls t = 1 from if_pos (by rw [hs, ← hNH.out, ho]; rfl))
      have hsH := Lib.hid hs
      have hoH := Lib.hid ho
      clear hs ho
      go_enter Tryz.func39, Tryz.ntmps39
      go_wp2_with (first
        | (go_at_call 71; refine (TS.valid (hH.out.below (by exact bel_)) hsH.out).mono ?_; rintro e w1 ⟨rfl, hb1⟩; obtain ⟨chb1, fhb1, shb1, thb1⟩ := bcell hb1; have s1 := shb1 w.heap.size (by go_simp))
        | (go_at_call 72; refine (ContainsFuncA_at (hB.out.below (by exact bel_)) (hLH.out.below (by exact bel_)) hNH.out hn hoH.out rfl).mono ?_; rintro e w2 ⟨rfl, hb2⟩))
      go_ret
      exact ⟨ret_int hR.out.symm, by exact bel_⟩
    · cases ht : inB t 1 16
      all_goals
        have hR := Lib.hid (show codeH gs ts Ls t = (if inB t 1 16 = false then 2 else 0) from if_neg (by rw [hs, ← hNH.out, ho]; decide))
        have hsH := Lib.hid hs
        have hoH := Lib.hid ho
        have htH := Lib.hid ht
        clear hs ho ht
        go_enter Tryz.func39, Tryz.ntmps39
        go_wp2_with (first
          | (go_at_call 71; refine (TS.valid (hH.out.below (by exact bel_)) hsH.out).mono ?_; rintro e w1 ⟨rfl, hb1⟩; obtain ⟨chb1, fhb1, shb1, thb1⟩ := bcell hb1; have s1 := shb1 w.heap.size (by go_simp))
          | (go_at_call 72; refine (ContainsFuncA_at (hB.out.below (by exact bel_)) (hLH.out.below (by exact bel_)) hNH.out hn hoH.out rfl).mono ?_; rintro e w2 ⟨rfl, hb2⟩; obtain ⟨chb2, fhb2, shb2, thb2⟩ := bcell hb2; have s2 := shb2 w.heap.size (by go_simp))
          | (go_at_call 75; refine (isTempH_at htH.out).mono ?_; rintro e _ ⟨rfl, rfl⟩))
        go_ret
        exact ⟨ret_int (by rw [hR.out, htH.out]; rfl), by exact bel_⟩
end Go.Proofs.YtedihnokcpnikaaGreat
/- Walks: placed tiles sorted to an assembly; two assemblies joined; an assembly in normal form. -/



namespace Go.Proofs.YtedihnokcpnikaaGreat
open Go.RowKit Go.Shelf
attribute [local go_sem] BelowBy.cell BelowBy.cell_drew stillUpon givesUpon BelowBy.cell_drew2 BelowBy.cell_drew3

theorem minus_any (a b c d : Int) (w : World) (h1 : -1000000 ≤ a ∧ a ≤ 1000000) (h2 : -1000000 ≤ b ∧ b ≤ 1000000) (h3 : -1000000 ≤ c ∧ c ≤ 1000000) (h4 : -1000000 ≤ d ∧ d ≤ 1000000) :
    Calls Tryz.prog 131 #[.agg #[.int .i64 a, .int .i64 b], .agg #[.int .i64 c, .int .i64 d]] w fun e w' => e = .returned (.agg #[.int .i64 (a - c), .int .i64 (b - d)]) ∧ Below w.heap.size w w' := by
  go_enter Tryz.func131, Tryz.ntmps131
  go_wp2
  refine bodyPost_ret (v := .agg #[.int .i64 (a - c), .int .i64 (b - d)]) (by simp only [results, Tryz.results131]; go_simp) rfl ?_
  exact ⟨rfl, by exact bel_⟩
theorem minus0_any (c d : Int) (w : World) (h3 : -1000000 ≤ c ∧ c ≤ 1000000) (h4 : -1000000 ≤ d ∧ d ≤ 1000000) :
    Calls Tryz.prog 131 #[.agg #[.int .i64 0, .int .i64 0], .agg #[.int .i64 c, .int .i64 d]] w fun e w' => e = .returned (.agg #[.int .i64 (-c), .int .i64 (-d)]) ∧ Below w.heap.size w w' := by
  refine (minus_any 0 0 c d w (by omega) (by omega) h3 h4).mono ?_
  rintro e w' ⟨rfl, hb⟩
  exact ⟨by rw [Int.zero_sub, Int.zero_sub], hb⟩
theorem ownsRow_baseU {w : World} {base base' : Nat} {e : TypeId} {size : Nat} {v : Value} {n : Nat} {xs : List Value} (h : w.ownsRow base e size v n xs) (hb : base' ≤ base) : w.ownsRow base' e size v n xs :=
  ⟨h.1, h.2.imp id (fun ⟨g, cap, cur, h1, h2, h3⟩ => ⟨g, cap, cur, h1, Nat.le_trans hb h2, h3⟩)⟩
/-- the result is an assembly of the call's own -/
def OwnAsm (w : World) (Z : List Pl) (e : Ending) (w' : World) : Prop :=
  ∃ B c', e = .returned (.agg #[.slice B Z.length c']) ∧ w'.ownsRow w.heap.size 127 3 (.slice B Z.length c') Z.length (plCells Z) ∧ Below w.heap.size w w'
set_option maxRecDepth 100000 in
set_option maxHeartbeats 1000000 in
theorem assemblyOf_any (A : Option Addr) (n c : Nat) (L : List Pl) (w : World) (h : RdSl 3 RPl w A n L) (hn : n ≤ 100000) (h0 : 0 < n) (hap : L.Pairwise apart) :
    Calls Tryz.prog 122 #[.slice A n c] w (OwnAsm w (sortPl L)) := by
  have hlH := Lib.hid h.len
  have hH := Lib.hid h
  have hapH := Lib.hid hap
  clear h hap
  go_enter Tryz.func122, Tryz.ntmps122
  go_wp2_with fail
  refine (CloneP_any A n c L _ (hH.out.below RPl.stable (by exact bel_)) hn).mono ?_
  rintro e w1 ⟨v, rfl, hown, hb1⟩
  rw [hlH.out] at hown
  rcases hown.2 with ⟨_, h00⟩ | ⟨g, cap, cur, rfl, hbg, hh, _⟩
  · omega
  have hgw : g < w1.heap.size := (Array.getElem?_eq_some_iff.1 hh).1
  have hbg2 : w.heap.size + 1 ≤ g := by simpa using hbg
  have r0 : w1.cell? ⟨w.heap.size, 0, none⟩ = some (.slice none 0 0) := (hb1.cell (p := ⟨w.heap.size, 0, none⟩) (by simp)).trans (by go_simp)
  have rf : w1.frozen? ⟨w.heap.size, 0, none⟩ = false := (hb1.frozen (p := ⟨w.heap.size, 0, none⟩) (by simp)).trans (by go_simp)
  have hs1 : w.heap.size + 1 ≤ w1.heap.size := by have := hb1.size; simpa using this
  have hbw1 := Lib.hid (show Below w.heap.size w w1 by exact bel_)
  have hownH := Lib.hid hown
  clear hown hb1 hbg hh
  go_wp2_with fail
  have hsrt := SortFuncPl_any L hapH.out (w.heap.size + 1) g cap w1 (by rw [hlH.out]; simpa using hownH.out) (by rw [hlH.out]; omega)
  rw [hlH.out] at hsrt
  refine hsrt.mono ?_
  rintro e w2 ⟨rfl, hown2, hg2⟩
  have hX : Below (w.heap.size + 1) w1 w2 := (Below.refl (w.heap.size + 1) w1).grown hg2 hs1 (fun b e => by injection e with e; omega)
  replace r0 := (hX.cell (p := ⟨w.heap.size, 0, none⟩) (by simp)).trans r0
  replace rf := (hX.frozen (p := ⟨w.heap.size, 0, none⟩) (by simp)).trans rf
  have hs2 : w.heap.size < w2.heap.size := by have := hX.size; omega
  have hown2H := Lib.hid hown2
  have hbw2 := Lib.hid (hbw1.out.trans (hX.mono (by omega)))
  clear hown2 hg2 hsrt hX
  go_wp2
  refine bodyPost_ret (v := .agg #[.slice (some ⟨g, 0, none⟩) n cap]) (by simp only [results, Tryz.results122]; go_simp) rfl ?_
  have hsl : (sortPl L).length = n := by rw [sortPl_len]; exact hlH.out
  refine ⟨some ⟨g, 0, none⟩, cap, by rw [hsl], ?_, hbw2.out.setCell (p := ⟨w.heap.size, 0, none⟩) (by simp) _⟩
  rw [hsl]
  exact ownsRow_baseU (ownsRow_setCell_below hown2H.out (by simp) _) (by omega)
/-- an assembly and a sign -/
def OwnAsmB (w : World) (Z : List Pl) (v : Bool) (e : Ending) (w' : World) : Prop :=
  ∃ B c', e = .returned (.tuple #[.agg #[.slice B Z.length c'], .bool v]) ∧ w'.ownsRow w.heap.size 127 3 (.slice B Z.length c') Z.length (plCells Z) ∧ Below w.heap.size w w'
set_option maxRecDepth 100000 in
set_option maxHeartbeats 4000000 in
theorem joined_any (A C : Option Addr) (n ca m cb : Nat) (gs : List Gl) (ts : List Ti) (xs ms : List Pl) (w : World) (hA : RdSl 3 RPl w A n xs) (hC : RdSl 3 RPl w C m ms) (h2 : Two gs ts xs ms) (hml : m ≤ 500) (h0 : 0 < m) :
    Calls Tryz.prog 77 #[.agg #[.slice A n ca], .agg #[.slice C m cb]] w (OwnAsmB w (sortPl (xs ++ ms)) true) := by
  obtain ⟨i2, hi2, hz02, hz12, hz22⟩ := info_parts infoPl
  have hlA := Lib.hid hA.len
  have hlC := Lib.hid hC.len
  have hn5 : n ≤ 500 := by have := h2.V.len; rw [hA.len] at this; exact this
  have hVH := Lib.hid h2.V
  have hfr := Lib.hid h2.fr
  have hap := Lib.hid h2.apart
  have hAH := Lib.hid hA
  have hCH := Lib.hid hC
  clear hA hC h2
  go_enter Tryz.func77, Tryz.ntmps77
  go_wp2_with fail
  refine (CloneP_any A n ca xs _ (hAH.out.below RPl.stable (by exact bel_)) (by omega)).mono ?_
  rintro e w1 ⟨v1, rfl, hown, hb1⟩
  rw [hlA.out] at hown
  obtain ⟨A3, c3, rfl⟩ := ownsRow_form hown
  have hown0 := Lib.hid (show w1.ownsRow (w.heap.size + 3) 127 3 (.slice A3 n c3) n (plCells xs) by simpa using hown)
  have hs1 : w.heap.size + 3 ≤ w1.heap.size := by have := hb1.size; simpa using this
  have hbw1 := Lib.hid (show Below w.heap.size w w1 by exact bel_)
  have ka : w1.cell? ⟨w.heap.size, 0, none⟩ = some (.slice A n ca) := (hb1.cell (p := ⟨w.heap.size, 0, none⟩) (by simp; omega)).trans (by go_simp)
  have kb : w1.cell? ⟨w.heap.size + 1, 0, none⟩ = some (.slice C m cb) := (hb1.cell (p := ⟨w.heap.size + 1, 0, none⟩) (by simp)).trans (by go_simp)
  have r0 : w1.cell? ⟨w.heap.size + 1 + 1, 0, none⟩ = some (.slice none 0 0) := (hb1.cell (p := ⟨w.heap.size + 1 + 1, 0, none⟩) (by simp)).trans (by go_simp)
  have rf : w1.frozen? ⟨w.heap.size + 1 + 1, 0, none⟩ = false := (hb1.frozen (p := ⟨w.heap.size + 1 + 1, 0, none⟩) (by simp)).trans (by go_simp)
  have l0 : w.heap.size < w1.heap.size := by omega
  have l1 : w.heap.size + 1 < w1.heap.size := by omega
  have l2 : w.heap.size + 1 + 1 < w1.heap.size := by omega
  clear hown hb1
  go_wp2
  go_loopg [16, 6] m (fun g x y wr => ∃ (k : Nat) (A4 : Option Addr) (c4 : Nat), k + g = m ∧ x = .int .i64 (k : Int) ∧ y = .slice A4 (n + k) c4 ∧ Hid (wr.ownsRow (w.heap.size + 3) 127 3 (.slice A4 (n + k) c4) (n + k) (plCells (xs ++ ms.take k))) ∧ Hid (Below w.heap.size w wr) ∧ w.heap.size + 3 ≤ wr.heap.size ∧ wr.cell? ⟨w.heap.size, 0, none⟩ = some (.slice A n ca) ∧ wr.cell? ⟨w.heap.size + 1 + 1, 0, none⟩ = some (.slice none 0 0) ∧ wr.frozen? ⟨w.heap.size + 1 + 1, 0, none⟩ = false)
  case atStart => exact ⟨0, A3, c3, by omega, rfl, rfl, Lib.hid (by simpa using hown0.out), hbw1, hs1, ka, r0, rf⟩
  case round =>
    clear hown0 hbw1 hs1 ka kb r0 rf l0 l1 l2
    obtain ⟨k, A4, c4, hk, rfl, rfl, hO, hbw, hs1, ka, r0, rf⟩ := hrel
    have l0 : w.heap.size < wr.heap.size := by omega
    have l2 : w.heap.size + 1 + 1 < wr.heap.size := by omega
    by_cases hkm : k < m
    · obtain ⟨e, he⟩ : ∃ e, ms[k]? = some e := ⟨_, List.getElem?_eq_getElem (by have := hlC.out; omega)⟩
      obtain ⟨bB, oB, rfl, hbB, hcB⟩ := (hCH.out.below RPl.stable hbw.out).ptr (by omega)
      obtain ⟨e0, e1, e2⟩ := hcB k e he
      have hat : atI xs e.x e.y = -1 := by
        have hf := hfr.out k (lt_of_get he)
        rw [freeAt_eq he, decide_eq_true_eq] at hf
        rcases atI_cases hVH.out e.x e.y with ⟨_, h⟩ | ⟨i, t2, d, hp, _, _, _, _⟩
        · exact h
        · omega
      have hatH := Lib.hid hat
      have htk : ms.take (k + 1) = ms.take k ++ [e] := by
        obtain ⟨hi, rfl⟩ := List.getElem?_eq_some_iff.1 he
        exact List.take_succ_eq_append_getElem hi
      have htkH := Lib.hid htk
      clear hcB hat he htk
      go_wp2_with fail
      refine (at_at (hAH.out.below RPl.stable (hbw.out.trans (Below.mono (show Below wr.heap.size wr _ by exact bel_) hbw.out.size))) hVH.out hatH.out).mono ?_
      rintro e' w2 ⟨rfl, hb2⟩
      have d0 : w2.cell? ⟨wr.heap.size, 0, none⟩ = some (.int .i64 e.x) := (hb2.cell (p := ⟨wr.heap.size, 0, none⟩) (by simp)).trans (by go_simp)
      have d1 : w2.cell? ⟨wr.heap.size, 1, none⟩ = some (.int .i64 e.y) := (hb2.cell (p := ⟨wr.heap.size, 1, none⟩) (by simp)).trans (by go_simp)
      have d2 : w2.cell? ⟨wr.heap.size, 2, none⟩ = some (.int .i64 e.t) := (hb2.cell (p := ⟨wr.heap.size, 2, none⟩) (by simp)).trans (by go_simp)
      have hB2 : Below wr.heap.size wr w2 := by exact bel_
      have s2 := hB2.size
      have s3 : wr.heap.size < w2.heap.size := Nat.lt_of_lt_of_le (by simp) hb2.size
      replace ka := (hB2.cell (p := ⟨w.heap.size, 0, none⟩) l0).trans ka
      replace r0 := (hB2.cell (p := ⟨w.heap.size + 1 + 1, 0, none⟩) l2).trans r0
      replace rf := (hB2.frozen (p := ⟨w.heap.size + 1 + 1, 0, none⟩) l2).trans rf
      have hO2 := Lib.hid (ownsRow_below hO.out hB2)
      have hbw2 := Lib.hid (hbw.out.trans (Below.mono hB2 hbw.out.size))
      clear hb2 hB2 e0 e1 e2 hO hbw
      go_wp2_with (at_builtin; refine wpList_append_own _ rfl _ _ 33 rfl (w.heap.size + 3) 127 i2 (.agg #[.int .i64 0, .int .i64 0, .int .i64 0]) 3 24 Tryz.underlying33 hi2 hz02 hz12 hz22 rfl (by decide) _ _ _ rfl (hO2.out.alloc _) ⟨w2.heap.size, 0, none⟩ 1 1 [.int .i64 e.x, .int .i64 e.y, .int .i64 e.t] rfl rfl (cell_three_new _ _ _ _ _) (fun x hx => by simp at hx; rcases hx with rfl | rfl | rfl <;> rfl) (by unfold maxLen; omega) (by omega) (by simp; omega) ?_; intro v' w3 hown' hgrow _; obtain ⟨g', cap', rfl⟩ := ownsRow_succ hown'; have hX : Below (w.heap.size + 3) w2 w3 := ((Below.refl (w.heap.size + 3) w2).alloc (by omega) _).grown hgrow (by simp; omega) (fun b' hb' => (hO2.out.lt b' hb').1); replace ka := (hX.cell (p := ⟨w.heap.size, 0, none⟩) (by simp)).trans ka; replace r0 := (hX.cell (p := ⟨w.heap.size + 1 + 1, 0, none⟩) (by simp)).trans r0; replace rf := (hX.frozen (p := ⟨w.heap.size + 1 + 1, 0, none⟩) (by simp)).trans rf; have hown3 := Lib.hid hown'; have hbw3 := Lib.hid (hbw2.out.trans (hX.mono (by omega))); have s4 := hX.size; clear hown' hgrow hX)
      go_roundg (m - (k + 1))
      case measure => omega
      case rel => exact ⟨k + 1, _, _, by omega, by go_num, rfl, Lib.hid (by
          have := hown3.out
          rw [htkH.out, ← List.append_assoc, plCells_snoc]
          exact this), hbw3, by omega, ka, r0, rf⟩
    · obtain rfl : k = m := by omega
      have hLL : (xs ++ ms).length = n + k := by rw [List.length_append, hlA.out, hlC.out]
      have hO1 := hO.out
      rw [List.take_of_length_le (by have := hlC.out; omega), ← hLL] at hO1
      obtain ⟨A5, c5, hv, hrd⟩ := rdP_of_row hO1
      injection hv with h1 h2 h3
      subst h1
      rw [hLL] at hrd
      have hrdH := Lib.hid hrd
      have hsz : (sortPl (xs ++ ms)).length = n + k := by rw [sortPl_len, hLL]
      have hszH := Lib.hid hsz
      clear hO1 hrd hLL hsz
      go_wp2_with fail
      refine (assemblyOf_any _ _ _ (xs ++ ms) _ (hrdH.out.below RPl.stable (by exact bel_)) (by omega) (by omega) hap.out).mono ?_
      rintro e w2 ⟨B, c', rfl, hown2, hb2⟩
      rw [hszH.out] at hown2
      have hB2 : Below wr.heap.size wr w2 := by exact bel_
      have s2 := hB2.size
      replace r0 := (hB2.cell (p := ⟨w.heap.size + 1 + 1, 0, none⟩) l2).trans r0
      replace rf := (hB2.frozen (p := ⟨w.heap.size + 1 + 1, 0, none⟩) l2).trans rf
      have l2' : w.heap.size + 1 + 1 < w2.heap.size := by omega
      have hown2H := Lib.hid (ownsRow_baseU hown2 (show w.heap.size + 3 ≤ wr.heap.size by omega))
      have hbw2 := Lib.hid (hbw.out.trans (Below.mono hB2 hbw.out.size))
      clear hb2 hB2 hown2
      rw [hszH.out]
      go_wp2
      refine bodyPost_ret (v := .tuple #[.agg #[.slice B (n + k) c'], .bool true]) (by simp only [results, Tryz.results77]; go_simp) rfl ?_
      refine ⟨B, c', by rw [hszH.out], ?_, hbw2.out.setCell (p := ⟨w.heap.size + 1 + 1, 0, none⟩) (by simp; omega) _⟩
      rw [hszH.out]
      exact ownsRow_baseU (ownsRow_setCell_below hown2H.out (by simp) _) (by omega)
end Go.Proofs.YtedihnokcpnikaaGreat
/- Walks: an assembly in normal form; two assemblies put together. -/



namespace Go.Proofs.YtedihnokcpnikaaGreat
open Go.RowKit Go.Shelf
attribute [local go_sem] BelowBy.cell BelowBy.cell_drew stillUpon givesUpon BelowBy.cell_drew2 BelowBy.cell_drew3

set_option maxRecDepth 100000 in
set_option maxHeartbeats 2000000 in
theorem normalized_any {gs : List Gl} {ts : List Ti} (A : Option Addr) (n c : Nat) (zs : List Pl) (e : Pl) (w : World) (h : RdSl 3 RPl w A n zs) (hV : Valid gs ts zs) (he : zs[0]? = some e) :
    Calls Tryz.prog 125 #[.agg #[.slice A n c]] w (OwnAsm w (mvL (-e.x) (-e.y) zs)) := by
  have hl := h.len
  have hlt := lt_of_get he
  obtain ⟨ex, ey⟩ := hV.pt 0 e he
  have hn5 := hV.len
  have hpt := Lib.hid hV.pt
  have hlH := Lib.hid hl
  obtain ⟨b, o, rfl, hb, hc⟩ := h.ptr (by omega)
  obtain ⟨c0, c1, c2⟩ := hc 0 e he
  simp only [Nat.zero_mul, Nat.add_zero] at c0 c1 c2
  have hH := Lib.hid h
  have heH := Lib.hid he
  have hn0 : 0 < n := by omega
  have hnI : (0 : Int) < (n : Int) := by omega
  have hn55 : n ≤ 500 := by omega
  clear h hV he hl hc hn5 hlt
  go_enter Tryz.func125, Tryz.ntmps125
  go_wp2
  have hbb : b < w.heap.size + 1 + 1 := by omega
  refine wp_region_ord [(0, .q), (1, .q), (2, .q), (3, .q), (4, .q), (5, .q), (6, .q), (7, .g), (8, .g), (9, .b)] (by kernel_rfl) (by kernel_rfl) ?_
  simp only [pick, List.filterMap_cons, List.filterMap_nil, List.getElem?_toArray, List.getElem?_cons_zero, List.getElem?_cons_succ, Option.map_some]
  repeat (first
    | ((with_reducible refine wpD_p (fun K hK => ?_)); go_simp; refine hK _ ?_; clear hK K)
    | ((with_reducible refine wpD_q (fun K hK => ?_)); go_simp; (first | refine hK _ ?_ | (go_bits; refine hK _ ?_) | (go_bits; go_simp; refine hK _ ?_)); clear hK K)
    | ((with_reducible refine wpD_g (fun K hK => ?_)); go_simp; refine hK _ _ ?_; clear hK K)
    | ((with_reducible refine wpD_g (fun K hK => ?_)); go_simp; refine ⟨Grew.of_alloc _, hK _ _ ?_⟩; clear hK K)
    | ((with_reducible refine wpD_g (fun K hK => ?_)); go_simp; go_at_call 131; refine (minus0_any e.x e.y _ (by omega) (by omega)).mono ?_; rintro e w2 ⟨rfl, hb2⟩; refine ⟨_, rfl, hb2, hK _ _ ?_⟩; clear hK K; obtain ⟨chb2, fhb2, shb2, thb2⟩ := bcell hb2))
  with_reducible refine wpD_g (fun K hK => ?_)
  go_simp
  refine (moved_own _ n c zs (-e.x) (-e.y) _ (hH.out.below RPl.stable (by exact bel_)) (by omega) hpt.out (by omega) (by omega)).mono ?_
  rintro e' w3 ⟨B, c', rfl, hown, hb3⟩
  refine ⟨_, rfl, hb3, hK _ _ ?_⟩
  clear hK K
  have hs2 : w.heap.size + 2 ≤ w2.heap.size := by have := hb2.size; simpa using this
  have r0 : w2.cell? ⟨w.heap.size + 1, 0, none⟩ = some (.slice none 0 0) := (hb2.cell (p := ⟨w.heap.size + 1, 0, none⟩) (by simp)).trans (by go_simp)
  have rf : w2.frozen? ⟨w.heap.size + 1, 0, none⟩ = false := (hb2.frozen (p := ⟨w.heap.size + 1, 0, none⟩) (by simp)).trans (by go_simp)
  replace r0 := (hb3.cell (p := ⟨w.heap.size + 1, 0, none⟩) (by simp; omega)).trans r0
  replace rf := (hb3.frozen (p := ⟨w.heap.size + 1, 0, none⟩) (by simp; omega)).trans rf
  have hs3 : w.heap.size + 1 < w3.heap.size := by have := hb3.size; omega
  have hownH := Lib.hid (ownsRow_baseU hown (show w.heap.size + 2 ≤ w2.heap.size by omega))
  have hbw3 := Lib.hid (show Below w.heap.size w w3 by exact bel_)
  have hml : (mvL (-e.x) (-e.y) zs).length = n := by rw [mvL_len]; exact hlH.out
  have hmlH := Lib.hid hml
  clear hown hb3 hb2 chb2 fhb2 shb2 thb2 hml
  with_reducible refine wpD_b (fun K hK => ?_)
  go_simp
  refine hK _ _ ?_
  clear hK K
  with_reducible refine wpD_nil ?_
  go_wp2
  refine bodyPost_ret (v := .agg #[.slice B n c']) (by simp only [results, Tryz.results125]; go_simp) rfl ?_
  refine ⟨B, c', by rw [hmlH.out], ?_, hbw3.out.setCell (p := ⟨w.heap.size + 1, 0, none⟩) (by simp) _⟩
  rw [hmlH.out]
  exact ownsRow_baseU (ownsRow_setCell_below hownH.out (by simp) _) (by omega)
theorem AsmRes.lift {w w' : World} {r : List Pl × Int} {base : Nat} {n : Nat} {c : Int} {bs : List Pl} {A : Option Addr} {cap : Nat} (h : (bs, c) = r) (hn : bs.length = n) (hr : w'.ownsRow base 127 3 (.slice A n cap) n (plCells bs)) (hbase : w.heap.size ≤ base) (hb : Below w.heap.size w w') : AsmRes w r (.returned (.tuple #[.agg #[.slice A n cap], .int .i64 c])) w' :=
  AsmRes.of h hn.symm (ownsRow_baseU hr hbase) hb
set_option maxRecDepth 100000 in
set_option maxHeartbeats 2000000 in
theorem Normalize_any {gs : List Gl} {ts : List Ti} (A : Option Addr) (n c : Nat) (zs : List Pl) (e : Pl) (w : World) (h : RdSl 3 RPl w A n zs) (hV : Valid gs ts zs) (he : zs[0]? = some e) :
    Calls Tryz.prog 79 #[.agg #[.slice A n c]] w (AsmRes w (normE zs)) := by
  have hl := h.len
  have hlt := lt_of_get he
  have hn5 := hV.len
  have hfm := Lib.hid (hasForm_valid hV)
  have hfm2 := Lib.hid (hasForm_mv (-e.x) (-e.y) hV)
  have hVH := Lib.hid hV
  have hH := Lib.hid h
  have heH := Lib.hid he
  have hlH := Lib.hid hl
  have hn0 : 0 < n := by omega
  have hn55 : n ≤ 500 := by omega
  have hz : ((n : Int) == 0) = false := by simp; omega
  have hnI : (0 : Int) < (n : Int) := by omega
  have hml : (mvL (-e.x) (-e.y) zs).length = n := by rw [mvL_len]; exact hl
  have hmlH := Lib.hid hml
  clear h hV he hl hlt hml
  cases hm : mvOk (-e.x) (-e.y) zs
  all_goals
    have hf2 := Lib.hid (hfm2.out.trans hm)
    have hmH := Lib.hid hm
    clear hm
    go_enter Tryz.func79, Tryz.ntmps79
    go_wp2_with fail
    refine (hasForm_at (hH.out.below RPl.stable (by exact bel_)) (by omega) hfm.out).mono ?_
    rintro e' w1 ⟨rfl, hb1⟩
    obtain ⟨chb1, fhb1, shb1, thb1⟩ := bcell hb1
    have s1 := shb1 w.heap.size (by go_simp)
    have s1' := shb1 (w.heap.size + 1) (by go_simp)
    go_wp2_with fail
    refine (normalized_any A n c zs e _ (hH.out.below RPl.stable (by exact bel_)) hVH.out heH.out).mono ?_
    rintro e' w2 ⟨B, c', rfl, hown, hb2⟩
    rw [hmlH.out] at hown ⊢
    have hownH := Lib.hid (ownsRow_baseU hown (show w.heap.size + 2 ≤ _ by have := hb1.size; simp at this ⊢; omega))
    have hrd : RdSl 3 RPl w2 B n (mvL (-e.x) (-e.y) zs) := rdPl hown hmlH.out.symm
    have hrdH := Lib.hid hrd
    obtain ⟨chb2, fhb2, shb2, thb2⟩ := bcell hb2
    have s2 := shb2 w.heap.size (by go_simp)
    have s2' := shb2 (w.heap.size + 1) (by go_simp)
    clear hown hrd
    go_wp2_with fail
    refine (hasForm_at (hrdH.out.below RPl.stable (by exact bel_)) (by omega) hf2.out).mono ?_
    rintro e' w3 ⟨rfl, hb3⟩
  · have hb30 := Lib.hid (show Below w.heap.size w w3 by exact bel_)
    obtain ⟨chb3, fhb3, shb3, thb3⟩ := bcell hb3
    have s3 := shb3 (w.heap.size + 1) (by go_simp)
    go_wp2
    refine bodyPost_ret (v := .tuple #[.agg #[.slice none 0 0], .int .i64 2]) (by simp only [results, Tryz.results79]; go_simp) rfl ?_
    exact AsmRes.lift (base := w.heap.size) (normE_no heH.out hmH.out) rfl (World.ownsRow_nil _ _ _ _) (Nat.le_refl _) (hb30.out.setCell (p := ⟨w.heap.size + 1, 0, none⟩) (by simp) _)
  · have hb30 := Lib.hid (show Below w.heap.size w w3 by exact bel_)
    obtain ⟨chb3, fhb3, shb3, thb3⟩ := bcell hb3
    have s3 := shb3 (w.heap.size + 1) (by go_simp)
    have hl2 : w2.heap.size < w3.heap.size := Nat.lt_of_lt_of_le (by simp) hb3.size
    have q0 : w3.cell? ⟨w2.heap.size, 0, none⟩ = some (.slice B n c') := (hb3.cell (p := ⟨w2.heap.size, 0, none⟩) (by simp)).trans (by go_simp)
    have hB3 : Below w2.heap.size w2 w3 := by exact bel_
    have hown3 := Lib.hid (ownsRow_below hownH.out hB3)
    clear hb3 hB3
    go_wp2
    refine bodyPost_ret (v := .tuple #[.agg #[.slice B n c'], .int .i64 0]) (by simp only [results, Tryz.results79]; go_simp) rfl ?_
    exact AsmRes.lift (base := w.heap.size + 2) (normE_ok heH.out hmH.out) hmlH.out (ownsRow_setCell_below hown3.out (by simp) _) (by omega) (hb30.out.setCell (p := ⟨w.heap.size + 1, 0, none⟩) (by simp) _)
end Go.Proofs.YtedihnokcpnikaaGreat
/- Walks: Combine, the program. -/


namespace Go.Proofs.YtedihnokcpnikaaGreat
open Go.RowKit Go.Shelf
attribute [local go_sem] BelowBy.cell BelowBy.cell_drew stillUpon givesUpon BelowBy.cell_drew2 BelowBy.cell_drew3

theorem joinStrength_at {G T A C : Option Addr} {n cg m ct q ca nb cb : Nat} {gs : List Gl} {ts : List Ti} {xs ys : List Pl} {dx dy s k : Int} {w : World} (hS : SA w G n T m A q gs ts xs) (hC : RdSl 3 RPl w C nb ys) (hV : Valid gs ts xs) (hVb : Valid gs ts ys) (h : joinM gs ts xs ys dx dy = (s, k)) :
    Calls Tryz.prog 76 #[.agg #[.slice G n cg, .slice T m ct], .agg #[.slice A q ca], .agg #[.slice C nb cb], .agg #[.int .i64 dx, .int .i64 dy]] w fun e w' => e = .returned (.tuple #[.int .i64 s, .int .i64 k]) ∧ Below w.heap.size w w' := by
  have := joinStrength_any G T A C n cg m ct q ca nb cb gs ts xs ys dx dy w hS hC hV hVb
  rw [h] at this
  exact this
theorem sumJ_top {gs : List Gl} {ts : List Ti} {xs ys : List Pl} {dx dy s : Int} (hV : Valid gs ts xs) (hV2 : Valid gs ts ys) (h : joinM gs ts xs ys dx dy = (s, 0)) : 0 ≤ s ∧ s ≤ 8000 := by
  obtain ⟨_, _, _, _, rfl⟩ := joinM_ok hV hV2 h
  have h1 := sumJ_bound hV (mvL dx dy ys) (mvL dx dy ys).length
  have h2 := mvL_len dx dy ys
  have h3 := hV2.len
  omega
set_option maxRecDepth 100000 in
set_option maxHeartbeats 4000000 in
theorem combine_any (G T A C : Option Addr) (n cg m ct q ca nb cb : Nat) (gs : List Gl) (ts : List Ti) (xs ys : List Pl) (t dx dy : Int) (w : World) (hS : SA w G n T m A q gs ts xs) (hC : RdSl 3 RPl w C nb ys) (hV : Valid gs ts xs) (hVb : Valid gs ts ys) (ht : 1 ≤ t) :
    Calls Tryz.prog 40 #[.agg #[.slice G n cg, .slice T m ct, .int .i64 t], .agg #[.slice A q ca], .agg #[.slice C nb cb], .agg #[.int .i64 dx, .int .i64 dy]] w (AsmRes w (combE gs ts xs ys t dx dy)) := by
  have hlb := hC.len
  have hla := hS.A.len
  have hl5 := hV.len
  have hlb5 := hVb.len
  obtain ⟨s, k, hj⟩ : ∃ s k, joinM gs ts xs ys dx dy = (s, k) := ⟨_, _, rfl⟩
  have hSH := Lib.hid hS
  have hCH := Lib.hid hC
  have hVH := Lib.hid hV
  have hVbH := Lib.hid hVb
  have hjH := Lib.hid hj
  by_cases hk : k = 0
  · subst hk
    by_cases hst : s < t
    · have hrH := Lib.hid (combE_weak hj hst)
      clear hS hC hV hVb hj
      go_enter Tryz.func40, Tryz.ntmps40
      go_wp2_with fail
      refine (joinStrength_at (hSH.out.below (by exact bel_)) (hCH.out.below RPl.stable (by exact bel_)) hVH.out hVbH.out hjH.out).mono ?_
      rintro e w1 ⟨rfl, hb1⟩
      have hb10 := Lib.hid (show Below w.heap.size w w1 by exact bel_)
      obtain ⟨chb1, fhb1, shb1, thb1⟩ := bcell hb1
      have s1 := shb1 w.heap.size (by go_simp)
      have s4 := shb1 (w.heap.size + 1 + 1 + 1 + 1) (by go_simp)
      go_wp2
      refine bodyPost_ret (v := .tuple #[.agg #[.slice none 0 0], .int .i64 5]) (by simp only [results, Tryz.results40]; go_simp) rfl ?_
      exact AsmRes.lift (base := w.heap.size) hrH.out rfl (World.ownsRow_nil _ _ _ _) (Nat.le_refl _) (hb10.out.setCell (p := ⟨w.heap.size + 1 + 1 + 1 + 1, 0, none⟩) (by simp; omega) _)
    · obtain ⟨hx, hy, hmv, h2, hsum⟩ := joinM_ok hV hVb hj
      have hxI := inB_true.1 hx
      have hyI := inB_true.1 hy
      obtain ⟨e0, he0⟩ := join_first (xs := xs) ht hst hsum
      have hml : (mvL dx dy ys).length = nb := by rw [mvL_len, hlb]
      have hb0 : 0 < nb := by
        rcases Nat.eq_zero_or_pos nb with h0 | h0
        · rw [List.eq_nil_of_length_eq_zero (l := mvL dx dy ys) (by omega)] at hsum
          simp [sumJ] at hsum
          omega
        · exact h0
      obtain ⟨ms, hms⟩ : ∃ ms, mvL dx dy ys = ms := ⟨_, rfl⟩
      rw [hms] at h2 he0 hml hsum
      have h2H := Lib.hid h2
      have hmsH := Lib.hid hms
      have he0H := Lib.hid he0
      have hzl : (sortPl (xs ++ ms)).length = q + nb := by rw [sortPl_len, List.length_append, hla, hml]
      have hzlH := Lib.hid hzl
      have hmlH := Lib.hid hml
      have hptb := Lib.hid hVb.pt
      have hqb : q ≤ 500 := by omega
      have hnbb : nb ≤ 500 := by omega
      have hfu : Hid (500 < q + nb → (([], 4) : List Pl × Int) = combE gs ts xs ys t dx dy) := Lib.hid (fun h => combE_full hj hst (by omega))
      have hnm : Hid (¬ 500 < q + nb → normE (sortPl (xs ++ ms)) = combE gs ts xs ys t dx dy) := Lib.hid (fun h => by rw [← hms]; exact combE_norm hj hst (by omega))
      have hVz : Hid (¬ 500 < q + nb → Valid gs ts (sortPl (xs ++ ms))) := Lib.hid (fun h => h2.valid (by omega))
      clear hS hC hV hVb hj h2 hms he0 hsum hx hy hmv hzl hml hlb hla
      go_enter Tryz.func40, Tryz.ntmps40
      go_wp2_with fail
      refine (joinStrength_at (hSH.out.below (by exact bel_)) (hCH.out.below RPl.stable (by exact bel_)) hVH.out hVbH.out hjH.out).mono ?_
      rintro e w1 ⟨rfl, hb1⟩
      have hb10 := Lib.hid (show Below w.heap.size w w1 by exact bel_)
      have y0 : w1.cell? ⟨w.heap.size, 2, none⟩ = some (.int .i64 t) := (hb1.cell (p := ⟨w.heap.size, 2, none⟩) (by simp; try omega)).trans (by go_simp)
      have y1 : w1.cell? ⟨w.heap.size + 1, 0, none⟩ = some (.slice A q ca) := (hb1.cell (p := ⟨w.heap.size + 1, 0, none⟩) (by simp; try omega)).trans (by go_simp)
      have y2 : w1.cell? ⟨w.heap.size + 1 + 1, 0, none⟩ = some (.slice C nb cb) := (hb1.cell (p := ⟨w.heap.size + 1 + 1, 0, none⟩) (by simp; try omega)).trans (by go_simp)
      have y3 : w1.cell? ⟨w.heap.size + 1 + 1 + 1, 0, none⟩ = some (.int .i64 dx) := (hb1.cell (p := ⟨w.heap.size + 1 + 1 + 1, 0, none⟩) (by simp)).trans (by go_simp)
      have y3' : w1.cell? ⟨w.heap.size + 1 + 1 + 1, 1, none⟩ = some (.int .i64 dy) := (hb1.cell (p := ⟨w.heap.size + 1 + 1 + 1, 1, none⟩) (by simp)).trans (by go_simp)
      have y4 : w1.cell? ⟨w.heap.size + 1 + 1 + 1 + 1, 0, none⟩ = some (.slice none 0 0) := (hb1.cell (p := ⟨w.heap.size + 1 + 1 + 1 + 1, 0, none⟩) (by simp)).trans (by go_simp)
      have k4 : w1.frozen? ⟨w.heap.size + 1 + 1 + 1 + 1, 0, none⟩ = false := (hb1.frozen (p := ⟨w.heap.size + 1 + 1 + 1 + 1, 0, none⟩) (by simp)).trans (by go_simp)
      have ls : w.heap.size + 5 ≤ w1.heap.size := by have := hb1.size; simp at this; omega
      have l0 : w.heap.size < w1.heap.size := by omega
      have l1 : w.heap.size + 1 < w1.heap.size := by omega
      have l2 : w.heap.size + 1 + 1 < w1.heap.size := by omega
      have l3 : w.heap.size + 1 + 1 + 1 < w1.heap.size := by omega
      have l4 : w.heap.size + 1 + 1 + 1 + 1 < w1.heap.size := by omega
      clear hb1
      go_wp2_with fail
      refine wp_region_fl 8 [(0, .q), (1, .q), (2, .q), (3, .g), (4, .g), (5, .q), (6, .q), (7, .p)] [(9, .b), (10, .q)] _ (Obj.cells #[.slice none 0 0] 35) (by kernel_rfl) (by kernel_rfl) (by kernel_rfl) (by kernel_rfl) rfl (fun a w => ⟨rfl, by unfold flPtr; go_simp⟩) ?_
      simp only [pick, List.filterMap_cons, List.filterMap_nil, List.getElem?_toArray, List.getElem?_cons_zero, List.getElem?_cons_succ, Option.map_some]
      repeat (first | ((with_reducible refine wpL_p (fun K hK => ?_)); go_simp; refine hK _ ?_; clear hK K) | ((with_reducible refine wpL_q (fun K hK => ?_)); go_simp; (first | refine hK _ ?_ | (go_bits; refine hK _ ?_) | (go_bits; go_simp; refine hK _ ?_)); clear hK K))
      with_reducible refine wpL_g rfl (fun K hK st4 u4 mv4 => ?_)
      have hu4 := mv4.below
      have fu4 := (FlAt.none (Obj.cells #[.slice none 0 0] 35) (World.drew w1)).mv mv4
      have j4 : Below w1.heap.size w1 u4 := (Below.refl _ w1).drew.trans (hu4.mono (Nat.le_refl _))
      clear mv4
      go_simp
      refine (moved_any C nb cb ys dx dy _ ((hCH.out.below RPl.stable hb10.out).below RPl.stable j4) (by omega) hptb.out hxI hyI).mono ?_
      rintro e w2 ⟨B, c2, rfl, hrd2, hb2⟩
      refine ⟨_, rfl, hb2, hK _ _ _ ?_⟩
      clear hK K
      rw [hmsH.out] at hrd2
      have hrd2H := Lib.hid hrd2
      have fd4 := fu4.below hb2
      have j5 : Below w1.heap.size w1 w2 := j4.trans (hb2.mono j4.size)
      repeat (first | ((with_reducible refine wpL_p (fun K hK => ?_)); go_simp; refine hK _ ?_; clear hK K) | ((with_reducible refine wpL_q (fun K hK => ?_)); go_simp; (first | refine hK _ ?_ | (go_bits; refine hK _ ?_) | (go_bits; go_simp; refine hK _ ?_)); clear hK K))
      with_reducible refine wpL_g rfl (fun K hK st5 u5 mv5 => ?_)
      have hu5 := mv5.below
      have fu5 := fd4.mv mv5
      clear mv5
      have j6 : Below w1.heap.size w1 u5 := j5.trans (hu5.mono j5.size)
      go_simp
      refine (joined_any A B q ca nb c2 gs ts xs ms _ ((hSH.out.A.below RPl.stable hb10.out).below RPl.stable j6) (hrd2H.out.below RPl.stable hu5) h2H.out hnbb hb0).mono ?_
      rintro e w3 ⟨D, c3, rfl, hown3, hb3⟩
      refine ⟨_, rfl, hb3, hK _ _ _ ?_⟩
      clear hK K
      rw [hzlH.out] at hown3
      rw [hzlH.out]
      have hown30 := ownsRow_baseU hown3 (show w.heap.size ≤ u5.heap.size by have := j6.size; omega)
      have fd5 := fu5.below hb3
      have j7 : Below w1.heap.size w1 w3 := j6.trans (hb3.mono j6.size)
      repeat (first | ((with_reducible refine wpL_p (fun K hK => ?_)); go_simp; refine hK _ ?_; clear hK K) | ((with_reducible refine wpL_q (fun K hK => ?_)); go_simp; (first | refine hK _ ?_ | (go_bits; refine hK _ ?_) | (go_bits; go_simp; refine hK _ ?_)); clear hK K))
      with_reducible refine wpL_nil (fun b12 w5 mvF => ?_)
      have huF := mvF.below
      obtain ⟨fl9, fb9⟩ := (fd5.mv mvF).2 _ rfl
      have j8 : Below w1.heap.size w1 w5 := j7.trans (huF.mono j7.size)
      clear mvF
      simp only [World.size_drew] at fl9
      have rF : w5.rowIs b12 35 1 (fun i => (#[.slice none 0 0] : Array Value).getD i undef) := ⟨_, fb9, rfl, fun i hi => by simp [hi]⟩
      have f0 : w5.cell? ⟨b12, 0, none⟩ = some (.slice none 0 0) := rF.cell (i := 0) (by decide)
      have f1 : w5.frozen? ⟨b12, 0, none⟩ = false := rF.frozen 0
      have lF : b12 < w5.heap.size := (Array.getElem?_eq_some_iff.1 fb9).1
      have hown5 := ownsRow_below hown30 huF
      have hneF := own_ne_row hown5 rF (by decide)
      have n4 : ¬ w.heap.size + 1 + 1 + 1 + 1 = b12 := by omega
      replace y4 := (j8.cell (p := ⟨w.heap.size + 1 + 1 + 1 + 1, 0, none⟩) l4).trans y4
      replace k4 := (j8.frozen (p := ⟨w.heap.size + 1 + 1 + 1 + 1, 0, none⟩) l4).trans k4
      replace l4 : w.heap.size + 1 + 1 + 1 + 1 < w5.heap.size := by have := j8.size; omega
      have hbw5 := Lib.hid (hb10.out.trans (j8.mono hb10.out.size))
      have hown6 := Lib.hid (ownsRow_setCell_other hown5 (a := ⟨b12, 0, none⟩) hneF (.slice D (q + nb) c3))
      have gb : w.heap.size ≤ b12 := by omega
      clear fu4 fd4 hu4 huF hb2 j4 j5 j6 j7 j8 fb9 rF hown5 hown30 hown3 hneF fu5 fd5 hu5 hb3 hrd2 y0 y1 y2 y3 y3' l0 l1 l2 l3
      simp only [flPtr]
      with_reducible refine wpD_b (fun K hK => ?_)
      go_simp
      refine hK _ _ ?_
      clear hK K
      repeat (first | ((with_reducible refine wpD_p (fun K hK => ?_)); go_simp; refine hK _ ?_; clear hK K) | ((with_reducible refine wpD_q (fun K hK => ?_)); go_simp; (first | refine hK _ ?_ | (go_bits; refine hK _ ?_) | (go_bits; go_simp; refine hK _ ?_)); clear hK K))
      with_reducible refine wpD_nil ?_
      have hbw6 := Lib.hid (hbw5.out.setCell (p := ⟨b12, 0, none⟩) (by simp; omega) (.slice D (q + nb) c3))
      have z0 : (w5.setCell ⟨b12, 0, none⟩ (.slice D (q + nb) c3)).cell? ⟨b12, 0, none⟩ = some (.slice D (q + nb) c3) := by go_simp
      have z4 : (w5.setCell ⟨b12, 0, none⟩ (.slice D (q + nb) c3)).cell? ⟨w.heap.size + 1 + 1 + 1 + 1, 0, none⟩ = some (.slice none 0 0) := by go_simp
      have z5 : (w5.setCell ⟨b12, 0, none⟩ (.slice D (q + nb) c3)).frozen? ⟨w.heap.size + 1 + 1 + 1 + 1, 0, none⟩ = false := by go_simp
      have z6 : b12 < (w5.setCell ⟨b12, 0, none⟩ (.slice D (q + nb) c3)).heap.size := by simpa using lF
      have z7 : w.heap.size + 1 + 1 + 1 + 1 < (w5.setCell ⟨b12, 0, none⟩ (.slice D (q + nb) c3)).heap.size := by simpa using l4
      clear y4 k4 f0 f1 lF l4 hbw5
      generalize (w5.setCell ⟨b12, 0, none⟩ (.slice D (q + nb) c3)) = w6 at hown6 hbw6 z0 z4 z5 z6 z7 ⊢
      by_cases hbig : 500 < q + nb
      · have hbigI : (500 : Int) < (q : Int) + (nb : Int) := by omega
        have hbigI2 : (500 : Int) < ((q + nb : Nat) : Int) := by omega
        go_wp2
        refine bodyPost_ret (v := .tuple #[.agg #[.slice none 0 0], .int .i64 4]) (by simp only [results, Tryz.results40]; go_simp) rfl ?_
        exact AsmRes.lift (base := w.heap.size) (hfu.out hbig) rfl (World.ownsRow_nil _ _ _ _) (Nat.le_refl _) (hbw6.out.setCell (p := ⟨w.heap.size + 1 + 1 + 1 + 1, 0, none⟩) (by simp; omega) _)
      · have hbigI : ¬ (500 : Int) < (q : Int) + (nb : Int) := by omega
        have hbigI2 : ¬ (500 : Int) < ((q + nb : Nat) : Int) := by omega
        have hrd6 : RdSl 3 RPl w6 D (q + nb) (sortPl (xs ++ ms)) := rdPl hown6.out hzlH.out.symm
        have hrd6H := Lib.hid hrd6
        clear hrd6
        go_wp2_with fail
        refine (Normalize_any D (q + nb) c3 (sortPl (xs ++ ms)) e0 _ hrd6H.out (hVz.out hbig) he0H.out).mono ?_
        rintro e w7 ⟨E, c7, rfl, hown7, hb7⟩
        have hnmH := Lib.hid (hnm.out hbig)
        obtain ⟨r, hr⟩ : ∃ r, normE (sortPl (xs ++ ms)) = r := ⟨_, rfl⟩
        rw [hr] at hown7 hnmH ⊢
        have u4 := (hb7.cell (p := ⟨w.heap.size + 1 + 1 + 1 + 1, 0, none⟩) z7).trans z4
        have u5 := (hb7.frozen (p := ⟨w.heap.size + 1 + 1 + 1 + 1, 0, none⟩) z7).trans z5
        have u7 : w.heap.size + 1 + 1 + 1 + 1 < w7.heap.size := Nat.lt_of_lt_of_le z7 hb7.size
        have hown8 := Lib.hid (ownsRow_setCell_below hown7 (a := ⟨w.heap.size + 1 + 1 + 1 + 1, 0, none⟩) z7 (.slice E r.1.length c7))
        have hbw7 := Lib.hid (hbw6.out.trans (hb7.mono hbw6.out.size))
        have hge : w.heap.size ≤ w6.heap.size := by omega
        clear hb7 hown7 hr z0 z4 z5 z6 z7
        go_wp2
        refine bodyPost_ret (v := .tuple #[.agg #[.slice E r.1.length c7], .int .i64 r.2]) (by simp only [results, Tryz.results40]; go_simp) rfl ?_
        rw [← hnmH.out]
        exact ⟨E, c7, rfl, ownsRow_baseU hown8.out hge, hbw7.out.setCell (p := ⟨w.heap.size + 1 + 1 + 1 + 1, 0, none⟩) (by simp; omega) _⟩
  · have hrH := Lib.hid (combE_code (T := t) hj hk)
    have hk1 : (k != 0) = true := by simpa using hk
    clear hS hC hV hVb hj
    go_enter Tryz.func40, Tryz.ntmps40
    go_wp2_with fail
    refine (joinStrength_at (hSH.out.below (by exact bel_)) (hCH.out.below RPl.stable (by exact bel_)) hVH.out hVbH.out hjH.out).mono ?_
    rintro e w1 ⟨rfl, hb1⟩
    have hb10 := Lib.hid (show Below w.heap.size w w1 by exact bel_)
    obtain ⟨chb1, fhb1, shb1, thb1⟩ := bcell hb1
    have s1 := shb1 w.heap.size (by go_simp)
    have s4 := shb1 (w.heap.size + 1 + 1 + 1 + 1) (by go_simp)
    go_wp2
    refine bodyPost_ret (v := .tuple #[.agg #[.slice none 0 0], .int .i64 k]) (by simp only [results, Tryz.results40]; go_simp) rfl ?_
    exact AsmRes.lift (base := w.heap.size) hrH.out rfl (World.ownsRow_nil _ _ _ _) (Nat.le_refl _) (hb10.out.setCell (p := ⟨w.heap.size + 1 + 1 + 1 + 1, 0, none⟩) (by simp; omega) _)
end Go.Proofs.YtedihnokcpnikaaGreat
/- Walk: the program's vectors. -/



namespace Go.Proofs.YtedihnokcpnikaaGreat
open Go.RowKit Go.Shelf
attribute [local go_sem] BelowBy.cell BelowBy.cell_drew stillUpon givesUpon BelowBy.cell_drew2 BelowBy.cell_drew3

theorem infoPtV : (Tryz.prog.info? 44).map (fun i => (i.zero, i.size, i.bytes)) = some (some (.agg #[.int .i64 0, .int .i64 0]), 2, 16) := by kernel_rfl
theorem cell_two_newV (w : World) (a b : Value) (t : TypeId) : ∀ j u, [a, b][j]? = some u → (w.alloc (Obj.cells #[a, b] t)).cell? ((⟨w.heap.size, 0, none⟩ : Addr).add j) = some u := by
  intro j u hj
  match j, hj with
  | 0, hj => simp at hj; subst hj; simp [Addr.add]
  | 1, hj => simp at hj; subst hj; simp [Addr.add]
  | j + 2, hj => simp at hj
theorem stepX_near (x : Int) (d : Nat) : x - 1 ≤ stepX x (d : Int) ∧ stepX x (d : Int) ≤ x + 1 := by
  unfold stepX; split <;> (try split) <;> omega
theorem stepY_near (y : Int) (d : Nat) : y - 1 ≤ stepY y (d : Int) ∧ stepY y (d : Int) ≤ y + 1 := by
  unfold stepY; split <;> (try split) <;> omega
set_option maxRecDepth 100000 in
set_option maxHeartbeats 8000000 in
theorem vectors_any (G T A C : Option Addr) (n cg m ct q ca nb cb : Nat) (gs : List Gl) (ts : List Ti) (xs ys : List Pl) (t : Int) (w : World) (hS : SA w G n T m A q gs ts xs) (hC : RdSl 3 RPl w C nb ys) (hV : Valid gs ts xs) (hVb : Valid gs ts ys) :
    Calls Tryz.prog 88 #[.agg #[.slice G n cg, .slice T m ct, .int .i64 t], .agg #[.slice A q ca], .agg #[.slice C nb cb]] w (OwnPts w (vecsP gs ts xs ys)) := by
  obtain ⟨i2, hi2, hz02, hz12, hz22⟩ := info_parts infoPtV
  have hlb := hC.len
  have hla := hS.A.len
  have hl5 := hV.len
  have hlb5 := hVb.len
  have hq5 : q ≤ 500 := by omega
  have hnb5 : nb ≤ 500 := by omega
  have hSH := Lib.hid hS
  have hCH := Lib.hid hC
  have hVH := Lib.hid hV
  have hVbH := Lib.hid hVb
  have hlaH := Lib.hid hla
  have hlbH := Lib.hid hlb
  have hvl := Lib.hid (show (vecI gs ts xs ys q).length ≤ 1000000 by have := vecI_len (gs := gs) (ts := ts) (xs := xs) (us := ys) (i := q) hlb5; omega)
  have hR : putAll [] (vecI gs ts xs ys q) = vecsP gs ts xs ys := by unfold vecsP; rw [hla]
  have hRH := Lib.hid hR
  clear hS hC hV hVb hla hlb hR
  go_enter Tryz.func88, Tryz.ntmps88
  go_wp2_with fail
  obtain ⟨w0, hw0⟩ : ∃ W, W = ((w.alloc (Obj.cells #[.slice G n cg, .slice T m ct, .int .i64 t] 84)).alloc (Obj.cells #[.slice A q ca] 35)).alloc (Obj.cells #[.slice C nb cb] 35) := ⟨_, rfl⟩
  rw [← hw0]
  have s0 : w0.heap.size = w.heap.size + 3 := by rw [hw0]; simp
  have y00 : Hid (w0.cell? ⟨w.heap.size, 0, none⟩ = some (.slice G n cg)) := Lib.hid (by rw [hw0]; go_simp)
  have y01 : Hid (w0.cell? ⟨w.heap.size, 1, none⟩ = some (.slice T m ct)) := Lib.hid (by rw [hw0]; go_simp)
  have y2 : Hid (w0.cell? ⟨w.heap.size + 1 + 1, 0, none⟩ = some (.slice C nb cb)) := Lib.hid (by rw [hw0]; go_simp)
  have hb0 : Hid (Below w.heap.size w w0) := Lib.hid (by rw [hw0]; exact bl_al (bl_al (bl_al (bl_refl _) _) _) _)
  clear hw0
  go_loopg [16, 7] q (fun g x y wr => ∃ (i : Nat) (v : Value), i + g = q ∧ x = .int .i64 (i : Int) ∧ v = y ∧ Hid (wr.ownsRow (w.heap.size + 3) 44 2 v (vecI gs ts xs ys i).length (ptCells (vecI gs ts xs ys i))) ∧ Hid ((vecI gs ts xs ys i).length = 0 → v = .slice none 0 0) ∧ Hid (Below (w.heap.size + 3) w0 wr))
  case atStart => exact ⟨0, .slice none 0 0, by omega, rfl, rfl, Lib.hid (World.ownsRow_nil _ _ _ _), Lib.hid (fun _ => rfl), Lib.hid (Below.refl _ _)⟩
  case round =>
    obtain ⟨i, v, hi, rfl, rfl, hO, hN, hbw⟩ := hrel
    have hsw : w.heap.size + 3 ≤ wr.heap.size := by have := hbw.out.size; omega
    by_cases hiq : i < q
    · obtain ⟨e, he⟩ : ∃ e, xs[i]? = some e := ⟨_, List.getElem?_eq_getElem (by have := hlaH.out; omega)⟩
      have hbwr : Hid (Below w.heap.size w wr) := Lib.hid (hb0.out.trans (hbw.out.mono (by omega)))
      obtain ⟨bA, oA, rfl, hbA, hcA⟩ := (hSH.out.A.below RPl.stable hbwr.out).ptr (by omega)
      obtain ⟨a0, a1, a2⟩ := hcA i e he
      obtain ⟨ex, ey⟩ := hVH.out.pt i e he
      obtain ⟨te, hte, htel⟩ := hVH.out.ti i e he
      rw [hte] at a2
      have hvI := Lib.hid (vecI_succ (gs := gs) (ts := ts) (us := ys) he)
      have heH := Lib.hid he
      clear he hcA
      go_wp2_with fail
      obtain ⟨w4, hw4⟩ : ∃ W, W = wr.alloc (Obj.cells #[.int .i64 e.x, .int .i64 e.y, .int .i64 (te : Int)] 127) := ⟨_, rfl⟩
      have hE0 : Hid (EBx w4 wr.heap.size e) := Lib.hid (by rw [hw4, ← hte]; exact EBx.new wr e)
      have hb4 : Hid (Below (w.heap.size + 3) w0 w4) := Lib.hid (hbw.out.trans (by rw [hw4]; exact (bl_al (bl_refl _) _).mono (by omega)))
      have hO4 : Hid (w4.ownsRow (w.heap.size + 3) 44 2 v (vecI gs ts xs ys i).length (ptCells (vecI gs ts xs ys i))) := Lib.hid (by rw [hw4]; exact hO.out.alloc _)
      have hpl := vecI_len (gs := gs) (ts := ts) (xs := xs) (us := ys) (i := i) hlb5
      obtain ⟨P, hP⟩ : ∃ P, vecI gs ts xs ys i = P := ⟨_, rfl⟩
      rw [hP] at hO4 hN hvI hpl
      obtain ⟨eb, heb⟩ : ∃ b, wr.heap.size = b := ⟨_, rfl⟩
      rw [heb] at hE0
      rw [← hw4]
      (try rw [heb])
      clear hw4 a0 a1 a2 hbA hO hbw hbwr
      go_wp2_with fail
      go_loopg [20, 7] 4 (fun g x y wr => ∃ (d : Nat) (v : Value), d + g = 4 ∧ x = .int .i64 (d : Int) ∧ v = y ∧ Hid (wr.ownsRow (w.heap.size + 3) 44 2 v (P ++ vecD gs ts e ys d).length (ptCells (P ++ vecD gs ts e ys d))) ∧ Hid ((P ++ vecD gs ts e ys d).length = 0 → v = .slice none 0 0) ∧ Hid (Below (w.heap.size + 3) w0 wr) ∧ Hid (EBx wr eb e))
      case atStart => exact ⟨0, v, by omega, rfl, rfl, Lib.hid (by simpa [vecD_zero] using hO4.out), Lib.hid (by simpa [vecD_zero] using hN.out), hb4, hE0⟩
      case round =>
        clear hE0 hb4 hO4 hN
        obtain ⟨d, v, hd, rfl, rfl, hO, hN, hbw, hE⟩ := hrel
        by_cases hd4 : d < 4
        · have hdl := vecD_len (gs := gs) (ts := ts) (e := e) (us := ys) (d := d) hlb5
          have hvD := Lib.hid (vecD_succ (gs := gs) (ts := ts) (e := e) (us := ys) (d := d))
          obtain ⟨Q, hQ⟩ : ∃ Q, P ++ vecD gs ts e ys d = Q := ⟨_, rfl⟩
          have hQl : Q.length ≤ 2000 * i + 500 * d := by rw [← hQ, List.length_append]; omega
          have hQ2 := Lib.hid (show P ++ vecD gs ts e ys (d + 1) = Q ++ vecK gs ts e d ys by rw [hvD.out, ← List.append_assoc, hQ])
          rw [hQ] at hO hN
          have c2 : wr.cell? ⟨w.heap.size + 1 + 1, 0, none⟩ = some (.slice C nb cb) := (hbw.out.cell (p := ⟨w.heap.size + 1 + 1, 0, none⟩) (by simp)).trans y2.out
          have sw2 : w.heap.size + 3 ≤ wr.heap.size := by have := hbw.out.size; omega
          have l2 : w.heap.size + 1 + 1 < wr.heap.size := by omega
          have hdI : (d : Int) < 4 := by omega
          clear hQ hdl
          go_wp2_with fail
          go_loopg [26, 7] nb (fun g x y wr => ∃ (k : Nat) (v : Value), k + g = nb ∧ x = .int .i64 (k : Int) ∧ v = y ∧ Hid (wr.ownsRow (w.heap.size + 3) 44 2 v (Q ++ vecK gs ts e d (ys.take k)).length (ptCells (Q ++ vecK gs ts e d (ys.take k)))) ∧ Hid ((Q ++ vecK gs ts e d (ys.take k)).length = 0 → v = .slice none 0 0) ∧ Hid (Below (w.heap.size + 3) w0 wr) ∧ Hid (EBx wr eb e))
          case atStart => exact ⟨0, v, by omega, rfl, rfl, Lib.hid (by simpa [vecK_zero] using hO.out), Lib.hid (by simpa [vecK_zero] using hN.out), hbw, hE⟩
          case round =>
            clear hO hN hbw hE c2 sw2 l2
            obtain ⟨k, v, hk, rfl, rfl, hO, hN, hbw, hE⟩ := hrel
            by_cases hkn : k < nb
            · have c00 : wr.cell? ⟨w.heap.size, 0, none⟩ = some (.slice G n cg) := (hbw.out.cell (p := ⟨w.heap.size, 0, none⟩) (by simp)).trans y00.out
              have c01 : wr.cell? ⟨w.heap.size, 1, none⟩ = some (.slice T m ct) := (hbw.out.cell (p := ⟨w.heap.size, 1, none⟩) (by simp)).trans y01.out
              have st : w.heap.size + 3 ≤ wr.heap.size := by have := hbw.out.size; omega
              have l0 : w.heap.size < wr.heap.size := by omega
              have hbwt : Hid (Below w.heap.size w wr) := Lib.hid (hb0.out.trans (hbw.out.mono (by omega)))
              obtain ⟨u, hu⟩ : ∃ u, ys[k]? = some u := ⟨_, List.getElem?_eq_getElem (by have := hlbH.out; omega)⟩
              obtain ⟨bB, oB, rfl, hbB, hcB⟩ := (hCH.out.below RPl.stable hbwt.out).ptr (by omega)
              obtain ⟨u0, u1, u2⟩ := hcB k u hu
              obtain ⟨ux, uy⟩ := hVbH.out.pt k u hu
              obtain ⟨tu, htu, htul⟩ := hVbH.out.ti k u hu
              rw [htu] at u2
              have e0 := hE.out.c0
              have e1 := hE.out.c1
              have e2 := hE.out.c2
              have le := hE.out.lt
              rw [hte] at e2
              obtain ⟨bo, hbo⟩ : ∃ bo, bondI gs ts te d tu = bo := ⟨_, rfl⟩
              have hbo2 : bondI gs ts e.t.toNat d u.t.toNat = bo := by rw [hte, htu]; exact hbo
              have huH := Lib.hid hu
              have hboH := Lib.hid hbo
              have hbo2H := Lib.hid hbo2
              clear hu hcB hbo hbo2
              go_wp2_with fail
              refine (bond_at te d tu rfl rfl rfl ((hSH.out.below hbwt.out).G.below RGl.stable (by exact bel_)) ((hSH.out.below hbwt.out).T.below RTi.stable (by exact bel_)) hVH.out htel htul hd4 hboH.out).mono ?_
              rintro e' w5 ⟨rfl, hb5⟩
              have d0 : w5.cell? ⟨wr.heap.size, 0, none⟩ = some (.int .i64 u.x) := (hb5.cell (p := ⟨wr.heap.size, 0, none⟩) (by simp)).trans (by go_simp)
              have d1 : w5.cell? ⟨wr.heap.size, 1, none⟩ = some (.int .i64 u.y) := (hb5.cell (p := ⟨wr.heap.size, 1, none⟩) (by simp)).trans (by go_simp)
              have hB5 : Below wr.heap.size wr w5 := by exact bel_
              have s5 : wr.heap.size < w5.heap.size := Nat.lt_of_lt_of_le (by simp) hb5.size
              have hE5 := Lib.hid (hE.out.below hB5)
              have hbw5 := Lib.hid (hbw.out.trans (hB5.mono st))
              have hO5 := Lib.hid (ownsRow_below hO.out hB5)
              clear hb5 hB5 e0 e1 e2 le u0 u1 u2 hE hbw hO c00 c01 hbB hbwt
              by_cases hpos : 0 < bo
              · have hnx := Lib.hid (vecK_yes (gs := gs) (ts := ts) huH.out hbo2H.out hpos)
                have e0 := hE5.out.c0
                have e1 := hE5.out.c1
                have le := hE5.out.lt
                have hkl := vecK_lenk (gs := gs) (ts := ts) (e := e) (d := d) (us := ys) (k := k)
                obtain ⟨R, hRl⟩ : ∃ R, Q ++ vecK gs ts e d (ys.take k) = R := ⟨_, rfl⟩
                have hRl2 : R.length ≤ 2000 * i + 500 * d + k := by rw [← hRl, List.length_append]; omega
                have hRx := Lib.hid (show Q ++ vecK gs ts e d (ys.take (k + 1)) = R ++ [⟨stepX e.x (d : Int) - u.x, stepY e.y (d : Int) - u.y⟩] by rw [hnx.out, ← List.append_assoc, hRl])
                rw [hRl] at hO5
                have hsx := stepX_near e.x d
                have hsy := stepY_near e.y d
                obtain ⟨SX, hSX⟩ : ∃ z, stepX e.x (d : Int) = z := ⟨_, rfl⟩
                obtain ⟨SY, hSY⟩ : ∃ z, stepY e.y (d : Int) = z := ⟨_, rfl⟩
                rw [hSX] at hsx hRx
                rw [hSY] at hsy hRx
                have hSXH := Lib.hid hSX
                have hSYH := Lib.hid hSY
                clear hRl hSX hSY hkl
                go_wp2
                refine wp_region_ord [(0, .q), (1, .q), (2, .q), (3, .q), (5, .q), (6, .q), (4, .g), (7, .g), (8, .g), (9, .b), (10, .q)] (by kernel_rfl) (by kernel_rfl) ?_
                simp only [pick, List.filterMap_cons, List.filterMap_nil, List.getElem?_toArray, List.getElem?_cons_zero, List.getElem?_cons_succ, Option.map_some]
                repeat (first
                  | ((with_reducible refine wpD_p (fun K hK => ?_)); go_simp; refine hK _ ?_; clear hK K)
                  | ((with_reducible refine wpD_q (fun K hK => ?_)); go_simp; (first | refine hK _ ?_ | (go_bits; refine hK _ ?_) | (go_bits; go_simp; refine hK _ ?_)); clear hK K)
                  | ((with_reducible refine wpD_g (fun K hK => ?_)); go_simp; refine hK _ _ ?_; clear hK K)
                  | ((with_reducible refine wpD_g (fun K hK => ?_)); go_simp; refine ⟨Grew.of_alloc _, hK _ _ ?_⟩; clear hK K)
                  | ((with_reducible refine wpD_g (fun K hK => ?_)); go_simp; go_at_call 130; refine (step_at d rfl hd4 (by omega) (by omega) hSXH.out hSYH.out).mono ?_; rintro e w6 ⟨rfl, hb6⟩; refine ⟨_, rfl, hb6, hK _ _ ?_⟩; clear hK K; obtain ⟨chb6, fhb6, shb6, thb6⟩ := bcell hb6)
                  | ((with_reducible refine wpD_g (fun K hK => ?_)); go_simp; go_at_call 131; refine (minus_any SX SY u.x u.y _ (by omega) (by omega) (by omega) (by omega)).mono ?_; rintro e w7 ⟨rfl, hb7⟩; refine ⟨_, rfl, hb7, hK _ _ ?_⟩; clear hK K; obtain ⟨chb7, fhb7, shb7, thb7⟩ := bcell hb7))
                have hB57 : Below w5.heap.size w5 w7 := by exact bel_
                have s57 := hB57.size
                have hal : Below w5.heap.size w5 (w7.alloc (Obj.cells #[.int .i64 (SX - u.x), .int .i64 (SY - u.y)] 44)) := bl_al hB57 _
                have hEa := hE5.out.below hal
                have hOa := ownsRow_below hO5.out hal
                refine wpD_append rfl _ _ 51 rfl (w.heap.size + 3) 44 i2 (.agg #[.int .i64 0, .int .i64 0]) 2 16 Tryz.underlying51 hi2 hz02 hz12 hz22 rfl (by decide) v R.length (ptCells R) (by go_simp) hOa ⟨w7.heap.size, 0, none⟩ 1 1 [.int .i64 (SX - u.x), .int .i64 (SY - u.y)] (by go_simp) rfl ?hnews (fun x hx => by simp at hx; rcases hx with rfl | rfl <;> rfl) (by unfold maxLen; omega) (by omega) (by simp; omega) ?_
                case hnews =>
                  have := cell_two_newV w7 (.int .i64 (SX - u.x)) (.int .i64 (SY - u.y)) 44
                  simpa using this
                intro v8 w8 hown8 hgrow8
                have hE8 := Lib.hid (hEa.grown hOa hgrow8)
                have hown8H := Lib.hid hown8
                have hbw8 := Lib.hid (hbw5.out.trans (((hal.mono (show w.heap.size + 3 ≤ w5.heap.size by omega))).grown hgrow8 (by simp; omega) (fun g e => (hOa.lt g e).1)))
                clear hown8 hgrow8 hEa hOa hal hB57 hb6 hb7 chb6 fhb6 shb6 thb6 chb7 fhb7 shb7 thb7 e0 e1 le d0 d1
                repeat (first | ((with_reducible refine wpD_p (fun K hK => ?_)); go_simp; refine hK _ ?_; clear hK K) | ((with_reducible refine wpD_q (fun K hK => ?_)); go_simp; (first | refine hK _ ?_ | (go_bits; refine hK _ ?_) | (go_bits; go_simp; refine hK _ ?_)); clear hK K))
                with_reducible refine wpD_nil ?_
                go_wp2
                go_roundg (nb - (k + 1))
                case measure => omega
                case rel =>
                  exact ⟨k + 1, v8, by omega, by go_num, rfl, Lib.hid (by rw [hRx.out, ptCells_snoc, List.length_append]; exact hown8H.out), Lib.hid (fun h => by rw [hRx.out] at h; simp at h), hbw8, hE8⟩
              · have hnx := Lib.hid (vecK_no (gs := gs) (ts := ts) huH.out hbo2H.out hpos)
                go_wp2
                go_roundg (nb - (k + 1))
                case measure => omega
                case rel =>
                  exact ⟨k + 1, v, by omega, by go_num, rfl, Lib.hid (by rw [hnx.out]; exact hO5.out), Lib.hid (by rw [hnx.out]; exact hN.out), hbw5, hE5⟩
            · obtain rfl : k = nb := by omega
              have htk : ys.take k = ys := List.take_of_length_le (by have := hlbH.out; omega)
              have htkH := Lib.hid htk
              clear htk
              go_wp2
              go_roundg (4 - (d + 1))
              case measure => omega
              case rel =>
                exact ⟨d + 1, v, by omega, by go_num, rfl, Lib.hid (by rw [hQ2.out, ← htkH.out]; simpa [htkH.out] using hO.out), Lib.hid (by rw [hQ2.out]; have := hN.out; rw [htkH.out] at this; exact this), hbw, hE⟩
        · obtain rfl : d = 4 := by omega
          go_wp2
          go_roundg (q - (i + 1))
          case measure => omega
          case rel =>
            exact ⟨i + 1, v, by omega, by go_num, rfl, Lib.hid (by rw [hvI.out]; exact hO.out), Lib.hid (by rw [hvI.out]; exact hN.out), hbw⟩
    · obtain rfl : i = q := by omega
      go_wp2_with fail
      refine (sortedShape_any (w.heap.size + 3) v (vecI gs ts xs ys i) _ hO.out hvl.out hN.out).mono ?_
      rintro e' w5 ⟨v5, rfl, hown5, hb5⟩
      rw [hRH.out] at hown5
      have hown5H := Lib.hid hown5
      have hb5H := Lib.hid hb5
      clear hown5 hb5
      go_wp2
      go_ret
      exact ⟨_, rfl, ownsRow_baseU hown5H.out (by omega), (hb0.out.trans (hbw.out.mono (by omega))).trans (hb5H.out.mono (by omega))⟩
end Go.Proofs.YtedihnokcpnikaaGreat
/- Walks: Combine, the program. -/

namespace Go.Proofs.YtedihnokcpnikaaGreat
open Go.RowKit Go.Shelf
attribute [local go_sem] BelowBy.cell BelowBy.cell_drew stillUpon givesUpon BelowBy.cell_drew2 BelowBy.cell_drew3

theorem validSet_of {gs : List Gl} {ts : List Ti} {xs : List Pl} (h : validAsmB gs ts xs = true) : validSetB gs ts = true := by
  unfold validAsmB at h
  simp only [Bool.and_eq_true] at h
  exact h.1
theorem codeH_two (gs : List Gl) (ts : List Ti) (xs ys : List Pl) (t : Int) : codeH gs ts [xs, ys] t = if askJ gs ts xs ys = false then 1 else if inB t 1 16 = false then 2 else 0 := by
  unfold codeH askJ
  have h2 : allB [xs, ys].length (okL gs ts [xs, ys]) = (validAsmB gs ts xs && validAsmB gs ts ys) := by
    simp [allB, okL, List.range_succ]
  rw [h2]
  cases hx : validAsmB gs ts xs
  · simp
  · rw [validSet_of hx]; simp
theorem lrow_two {w : World} {g : Nat} {A C : Option Addr} {q ca nb cb : Nat} {xs ys : List Pl} (hg : g < w.heap.size) (h0 : w.cell? ⟨g, 0, none⟩ = some (.slice A q ca)) (h1 : w.cell? ⟨g, 1, none⟩ = some (.slice C nb cb)) (hA : RdSl 3 RPl w A q xs) (hC : RdSl 3 RPl w C nb ys) (hq : q ≤ 1073741824) (hn : nb ≤ 1073741824) : LRow w g [xs, ys] := by
  refine ⟨hg, fun k l hk => ?_⟩
  rcases k with _ | _ | k
  · simp at hk; subst hk; exact ⟨A, q, ca, h0, hA, hq⟩
  · simp at hk; subst hk; exact ⟨C, nb, cb, h1, hC, hn⟩
  · simp at hk
set_option maxRecDepth 100000 in
set_option maxHeartbeats 4000000 in
theorem Combine_any (G T A C : Option Addr) (n cg m ct q ca nb cb : Nat) (gs : List Gl) (ts : List Ti) (xs ys : List Pl) (t dx dy : Int) (w : World) (hS : SA w G n T m A q gs ts xs) (hS2 : SA w G n T m C nb gs ts ys) :
    Calls Tryz.prog 12 #[.agg #[.slice G n cg, .slice T m ct], .int .i64 t, .agg #[.slice A q ca], .agg #[.slice C nb cb], .agg #[.int .i64 dx, .int .i64 dy]] w (AsmRes w (combR gs ts xs ys t dx dy)) := by
  have hq1 := hS.q
  have hq2 := hS2.q
  have hSH := Lib.hid hS
  have hS2H := Lib.hid hS2
  have hcd := codeH_two gs ts xs ys t
  clear hS hS2
  cases hk : askJ gs ts xs ys
  · rw [hk, if_pos rfl] at hcd
    have hrH := Lib.hid (show (([], 1) : List Pl × Int) = combR gs ts xs ys t dx dy by unfold combR; rw [if_pos hk])
    have hcdH := Lib.hid hcd
    clear hk hcd
    go_enter Tryz.func12, Tryz.ntmps12
    go_wp2_with fail
    refine (handsCode_any (N := 2) (Ls := [xs, ys]) (hSH.out.toTS.below (by exact bel_)) (lrow_two (g := w.heap.size + 1 + 1 + 1 + 1 + 1 + 1) (A := A) (C := C) (q := q) (ca := ca) (nb := nb) (cb := cb) (by simp) (by go_simp) (by go_simp) (hSH.out.A.below RPl.stable (by exact bel_)) (hS2H.out.A.below RPl.stable (by exact bel_)) hq1 hq2) rfl (by decide)).mono ?_
    rw [hcdH.out]
    rintro e w1 ⟨rfl, hb1⟩
    have hb10 := Lib.hid (show Below w.heap.size w w1 by exact bel_)
    obtain ⟨chb1, fhb1, shb1, thb1⟩ := bcell hb1
    have s4 := shb1 (w.heap.size + 1 + 1 + 1 + 1) (by go_simp)
    go_wp2
    refine bodyPost_ret (v := .tuple #[.agg #[.slice none 0 0], .int .i64 1]) (by simp only [results, Tryz.results12]; go_simp) rfl ?_
    exact AsmRes.lift (base := w.heap.size) hrH.out rfl (World.ownsRow_nil _ _ _ _) (Nat.le_refl _) (hb10.out.setCell (p := ⟨w.heap.size + 1 + 1 + 1 + 1, 0, none⟩) (by simp; omega) _)
  · cases hT : inB t 1 16
    · rw [hk, hT, if_neg (by decide), if_pos rfl] at hcd
      have hrH := Lib.hid (show (([], 2) : List Pl × Int) = combR gs ts xs ys t dx dy by unfold combR; rw [if_neg (by rw [hk]; decide), if_pos hT])
      have hcdH := Lib.hid hcd
      clear hk hcd hT
      go_enter Tryz.func12, Tryz.ntmps12
      go_wp2_with fail
      refine (handsCode_any (N := 2) (Ls := [xs, ys]) (hSH.out.toTS.below (by exact bel_)) (lrow_two (g := w.heap.size + 1 + 1 + 1 + 1 + 1 + 1) (A := A) (C := C) (q := q) (ca := ca) (nb := nb) (cb := cb) (by simp) (by go_simp) (by go_simp) (hSH.out.A.below RPl.stable (by exact bel_)) (hS2H.out.A.below RPl.stable (by exact bel_)) hq1 hq2) rfl (by decide)).mono ?_
      rw [hcdH.out]
      rintro e w1 ⟨rfl, hb1⟩
      have hb10 := Lib.hid (show Below w.heap.size w w1 by exact bel_)
      obtain ⟨chb1, fhb1, shb1, thb1⟩ := bcell hb1
      have s4 := shb1 (w.heap.size + 1 + 1 + 1 + 1) (by go_simp)
      go_wp2
      refine bodyPost_ret (v := .tuple #[.agg #[.slice none 0 0], .int .i64 2]) (by simp only [results, Tryz.results12]; go_simp) rfl ?_
      exact AsmRes.lift (base := w.heap.size) hrH.out rfl (World.ownsRow_nil _ _ _ _) (Nat.le_refl _) (hb10.out.setCell (p := ⟨w.heap.size + 1 + 1 + 1 + 1, 0, none⟩) (by simp; omega) _)
    · rw [hk, hT, if_neg (by decide), if_neg (by decide)] at hcd
      have hrH := Lib.hid (show combE gs ts xs ys t dx dy = combR gs ts xs ys t dx dy by unfold combR; rw [if_neg (by rw [hk]; decide), if_neg (by rw [hT]; decide)])
      have hk2 : validAsmB gs ts xs = true ∧ validAsmB gs ts ys = true := by unfold askJ at hk; simpa using hk
      have hV := Lib.hid (valid_of hk2.1)
      have hV2 := Lib.hid (valid_of hk2.2)
      have hT1 : 1 ≤ t := (inB_true.1 hT).1
      have hcdH := Lib.hid hcd
      clear hk hcd hT hk2
      go_enter Tryz.func12, Tryz.ntmps12
      go_wp2_with fail
      refine (handsCode_any (N := 2) (Ls := [xs, ys]) (hSH.out.toTS.below (by exact bel_)) (lrow_two (g := w.heap.size + 1 + 1 + 1 + 1 + 1 + 1) (A := A) (C := C) (q := q) (ca := ca) (nb := nb) (cb := cb) (by simp) (by go_simp) (by go_simp) (hSH.out.A.below RPl.stable (by exact bel_)) (hS2H.out.A.below RPl.stable (by exact bel_)) hq1 hq2) rfl (by decide)).mono ?_
      rw [hcdH.out]
      rintro e w1 ⟨rfl, hb1⟩
      have hb10 := Lib.hid (show Below w.heap.size w w1 by exact bel_)
      obtain ⟨chb1, fhb1, shb1, thb1⟩ := bcell hb1
      have s1 := shb1 (w.heap.size + 1) (by go_simp)
      have s2 := shb1 (w.heap.size + 1 + 1) (by go_simp)
      have s3 := shb1 (w.heap.size + 1 + 1 + 1) (by go_simp)
      have s4 := shb1 (w.heap.size + 1 + 1 + 1 + 1) (by go_simp)
      have s5 := shb1 (w.heap.size + 1 + 1 + 1 + 1 + 1) (by go_simp)
      go_wp2_with fail
      refine (combine_any G T A C n cg m ct q ca nb cb gs ts xs ys t dx dy _ (hSH.out.below (show Below w.heap.size w w1 from hb10.out)) (hS2H.out.A.below RPl.stable hb10.out) hV.out hV2.out hT1).mono ?_
      rintro e w2 ⟨B, c2, rfl, hown, hb2⟩
      obtain ⟨r, hr⟩ : ∃ r, combE gs ts xs ys t dx dy = r := ⟨_, rfl⟩
      rw [hr] at hown hrH ⊢
      have y4 : w1.cell? ⟨w.heap.size + 1 + 1 + 1 + 1, 0, none⟩ = some (.slice none 0 0) := (hb1.cell (p := ⟨w.heap.size + 1 + 1 + 1 + 1, 0, none⟩) (by simp)).trans (by go_simp)
      have k4 : w1.frozen? ⟨w.heap.size + 1 + 1 + 1 + 1, 0, none⟩ = false := (hb1.frozen (p := ⟨w.heap.size + 1 + 1 + 1 + 1, 0, none⟩) (by simp)).trans (by go_simp)
      replace y4 := (hb2.cell (p := ⟨w.heap.size + 1 + 1 + 1 + 1, 0, none⟩) s4).trans y4
      replace k4 := (hb2.frozen (p := ⟨w.heap.size + 1 + 1 + 1 + 1, 0, none⟩) s4).trans k4
      have s6 : w.heap.size + 1 + 1 + 1 + 1 < w2.heap.size := Nat.lt_of_lt_of_le s4 hb2.size
      have hown2 := Lib.hid (ownsRow_setCell_below hown (a := ⟨w.heap.size + 1 + 1 + 1 + 1, 0, none⟩) s4 (.slice B r.1.length c2))
      have hge : w.heap.size ≤ w1.heap.size := by omega
      have hbw2 := Lib.hid (hb10.out.trans (hb2.mono hge))
      clear hb2 hown hr hb1 chb1 fhb1 shb1 thb1
      go_wp2
      refine bodyPost_ret (v := .tuple #[.agg #[.slice B r.1.length c2], .int .i64 r.2]) (by simp only [results, Tryz.results12]; go_simp) rfl ?_
      rw [← hrH.out]
      exact ⟨B, c2, rfl, ownsRow_baseU hown2.out hge, hbw2.out.setCell (p := ⟨w.heap.size + 1 + 1 + 1 + 1, 0, none⟩) (by simp; omega) _⟩
end Go.Proofs.YtedihnokcpnikaaGreat
/- Walks: Combinations, the program. -/


namespace Go.Proofs.YtedihnokcpnikaaGreat
open Go.RowKit Go.Shelf
attribute [local go_sem] BelowBy.cell BelowBy.cell_drew stillUpon givesUpon BelowBy.cell_drew2 BelowBy.cell_drew3

theorem infoAsmV : (Tryz.prog.info? 35).map (fun i => (i.zero, i.size, i.bytes)) = some (some (.agg #[.slice none 0 0]), 1, 24) := by kernel_rfl
/-- rows of two types lie in two blocks -/
theorem own_apart {w : World} {b1 b2 n1 n2 s1 s2 : Nat} {e1 e2 : TypeId} {v1 v2 : Value} {x1 x2 : List Value} (h1 : w.ownsRow b1 e1 s1 v1 n1 x1) (h2 : w.ownsRow b2 e2 s2 v2 n2 x2) (hne : e1 ≠ e2) : v1.ownBlock = none ∨ v1.ownBlock ≠ v2.ownBlock := by
  rcases h1.2 with ⟨rfl, _⟩ | ⟨g1, cap1, cur1, rfl, _, hh1, _⟩
  · exact Or.inl rfl
  · right
    intro hc
    rcases h2.2 with ⟨rfl, _⟩ | ⟨g2, cap2, cur2, rfl, _, hh2, _⟩
    · cases hc
    · have hg : some g1 = some g2 := hc
      injection hg with hg
      subst hg
      have := Option.some.inj (hh1.symm.trans hh2)
      injection this with _ h3
      exact hne h3
theorem cell_one_newV (w : World) (a : Value) (t : TypeId) : ∀ j u, [a][j]? = some u → (w.alloc (Obj.cells #[a] t)).cell? ((⟨w.heap.size, 0, none⟩ : Addr).add j) = some u := by
  intro j u hj
  match j, hj with
  | 0, hj => simp at hj; subst hj; simp [Addr.add]
  | j + 1, hj => simp at hj
def CombosRes (w : World) (L : List Pt) (e : Ending) (w' : World) : Prop :=
  ∃ v1 v2, e = .returned (.tuple #[v1, v2]) ∧ w'.ownsRow w.heap.size 44 2 v1 L.length (ptCells L) ∧ Below w.heap.size w w'
set_option maxRecDepth 100000 in
set_option maxHeartbeats 8000000 in
theorem combinations_any (G T A C : Option Addr) (n cg m ct q ca nb cb : Nat) (gs : List Gl) (ts : List Ti) (xs ys : List Pl) (t : Int) (w : World) (hS : SA w G n T m A q gs ts xs) (hC : RdSl 3 RPl w C nb ys) (hV : Valid gs ts xs) (hVb : Valid gs ts ys) (ht : 1 ≤ t) :
    Calls Tryz.prog 49 #[.agg #[.slice G n cg, .slice T m ct, .int .i64 t], .agg #[.slice A q ca], .agg #[.slice C nb cb]] w (CombosRes w (keepV gs ts xs ys t (vecsP gs ts xs ys).length)) := by
  obtain ⟨i2, hi2, hz02, hz12, hz22⟩ := info_parts infoPtV
  obtain ⟨i3, hi3, hz03, hz13, hz23⟩ := info_parts infoAsmV
  have hl5 := hV.len
  have hlb5 := hVb.len
  have hSH := Lib.hid hS
  have hCH := Lib.hid hC
  have hVH := Lib.hid hV
  have hVbH := Lib.hid hVb
  have hvl := vecsP_len (gs := gs) (ts := ts) hl5 hlb5
  have hkeep := Lib.hid (fun k => keepV_len (gs := gs) (ts := ts) (xs := xs) (ys := ys) (t := t) (k := k))
  have hyes := Lib.hid (fun (k : Nat) (p : Pt) => keepV_yes (gs := gs) (ts := ts) (xs := xs) (ys := ys) (t := t) (k := k) (p := p))
  have hno := Lib.hid (fun (k : Nat) (p : Pt) => keepV_no (gs := gs) (ts := ts) (xs := xs) (ys := ys) (t := t) (k := k) (p := p))
  have hk0 : keepV gs ts xs ys t 0 = [] := rfl
  have hk0H := Lib.hid hk0
  clear hS hC hV hVb hk0
  go_enter Tryz.func49, Tryz.ntmps49
  go_wp2_with fail
  refine (vectors_any G T A C n cg m ct q ca nb cb gs ts xs ys t _ (hSH.out.below (by exact bel_)) (hCH.out.below RPl.stable (by exact bel_)) hVH.out hVbH.out).mono ?_
  rintro e w1 ⟨v1, rfl, hown1, hb1⟩
  obtain ⟨V, hVe⟩ : ∃ V, vecsP gs ts xs ys = V := ⟨_, rfl⟩
  rw [hVe] at hown1 hvl ⊢
  have hyes2 : Hid (∀ (k : Nat) (p : Pt), V[k]? = some p → (combE gs ts xs ys t p.x p.y).2 = 0 → keepV gs ts xs ys t (k + 1) = keepV gs ts xs ys t k ++ [p]) := Lib.hid (by rw [← hVe]; exact hyes.out)
  have hno2 : Hid (∀ (k : Nat) (p : Pt), V[k]? = some p → ¬ (combE gs ts xs ys t p.x p.y).2 = 0 → keepV gs ts xs ys t (k + 1) = keepV gs ts xs ys t k) := Lib.hid (by rw [← hVe]; exact hno.out)
  obtain ⟨A1, c1, rfl, hrd1⟩ := rdPt_of_row hown1
  obtain ⟨n1, hn1⟩ : ∃ n1, V.length = n1 := ⟨_, rfl⟩
  rw [hn1] at hrd1 hvl ⊢
  have hn1H := Lib.hid hn1
  have hfin : Hid ((vecsP gs ts xs ys).length = n1) := Lib.hid (by rw [hVe]; exact hn1)
  have hrd1H := Lib.hid hrd1
  have s1 : w.heap.size + 3 ≤ w1.heap.size := by have := hb1.size; simp at this; omega
  have hbw1 := Lib.hid (show Below w.heap.size w w1 by exact bel_)
  have y00 : Hid (w1.cell? ⟨w.heap.size, 0, none⟩ = some (.slice G n cg)) := Lib.hid ((hb1.cell (p := ⟨w.heap.size, 0, none⟩) (by simp; omega)).trans (by go_simp))
  have y01 : Hid (w1.cell? ⟨w.heap.size, 1, none⟩ = some (.slice T m ct)) := Lib.hid ((hb1.cell (p := ⟨w.heap.size, 1, none⟩) (by simp; omega)).trans (by go_simp))
  have y02 : Hid (w1.cell? ⟨w.heap.size, 2, none⟩ = some (.int .i64 t)) := Lib.hid ((hb1.cell (p := ⟨w.heap.size, 2, none⟩) (by simp; omega)).trans (by go_simp))
  have y1 : Hid (w1.cell? ⟨w.heap.size + 1, 0, none⟩ = some (.slice A q ca)) := Lib.hid ((hb1.cell (p := ⟨w.heap.size + 1, 0, none⟩) (by simp)).trans (by go_simp))
  have y2 : Hid (w1.cell? ⟨w.heap.size + 1 + 1, 0, none⟩ = some (.slice C nb cb)) := Lib.hid ((hb1.cell (p := ⟨w.heap.size + 1 + 1, 0, none⟩) (by simp)).trans (by go_simp))
  clear hb1 hown1 hrd1 hn1 hVe hyes hno
  go_wp2_with fail
  go_loopg [19, 8, 9] n1 (fun g x y z wr => ∃ (k : Nat) (vo vr : Value) (rs : List Value) (nr : Nat), k + g = n1 ∧ x = .int .i64 (k : Int) ∧ vo = y ∧ vr = z ∧ nr ≤ k ∧ Hid (wr.ownsRow w1.heap.size 44 2 vo (keepV gs ts xs ys t k).length (ptCells (keepV gs ts xs ys t k))) ∧ Hid (wr.ownsRow w1.heap.size 35 1 vr nr rs) ∧ Hid (Below w1.heap.size w1 wr))
  case atStart => exact ⟨0, .slice none 0 0, .slice none 0 0, [], 0, by omega, rfl, rfl, rfl, by omega, Lib.hid (by rw [hk0H.out]; exact World.ownsRow_nil _ _ _ _), Lib.hid (World.ownsRow_nil _ _ _ _), Lib.hid (Below.refl _ _)⟩
  case round =>
    obtain ⟨k, vo, vr, rs, nr, hk, rfl, rfl, rfl, hnr, hO, hP, hbw⟩ := hrel
    have sw := hbw.out.size
    by_cases hkn : k < n1
    · obtain ⟨p, hp⟩ : ∃ p, V[k]? = some p := ⟨_, List.getElem?_eq_getElem (by have := hn1H.out; omega)⟩
      obtain ⟨bA, oA, rfl, hbA, hcA⟩ := (hrd1H.out.below RPt.stable hbw.out).ptr (by omega)
      obtain ⟨p0, p1⟩ := hcA k p hp
      have c00 : wr.cell? ⟨w.heap.size, 0, none⟩ = some (.slice G n cg) := (hbw.out.cell (p := ⟨w.heap.size, 0, none⟩) (by simp; omega)).trans y00.out
      have c01 : wr.cell? ⟨w.heap.size, 1, none⟩ = some (.slice T m ct) := (hbw.out.cell (p := ⟨w.heap.size, 1, none⟩) (by simp; omega)).trans y01.out
      have c02 : wr.cell? ⟨w.heap.size, 2, none⟩ = some (.int .i64 t) := (hbw.out.cell (p := ⟨w.heap.size, 2, none⟩) (by simp; omega)).trans y02.out
      have c1' : wr.cell? ⟨w.heap.size + 1, 0, none⟩ = some (.slice A q ca) := (hbw.out.cell (p := ⟨w.heap.size + 1, 0, none⟩) (by simp; omega)).trans y1.out
      have c2' : wr.cell? ⟨w.heap.size + 1 + 1, 0, none⟩ = some (.slice C nb cb) := (hbw.out.cell (p := ⟨w.heap.size + 1 + 1, 0, none⟩) (by simp; omega)).trans y2.out
      have l0 : w.heap.size < wr.heap.size := by omega
      have l1 : w.heap.size + 1 < wr.heap.size := by omega
      have l2 : w.heap.size + 1 + 1 < wr.heap.size := by omega
      have hbwr : Hid (Below w.heap.size w wr) := Lib.hid (hbw1.out.trans (hbw.out.mono (by omega)))
      have hpH := Lib.hid hp
      clear hcA hp
      go_wp2_with fail
      refine (combine_any G T A C n cg m ct q ca nb cb gs ts xs ys t p.x p.y _ ((hSH.out.below hbwr.out).below (by exact bel_)) ((hCH.out.below RPl.stable hbwr.out).below RPl.stable (by exact bel_)) hVH.out hVbH.out ht).mono ?_
      rintro e' w2 ⟨B, c5, rfl, _, hb2⟩
      obtain ⟨r, hr⟩ : ∃ r, combE gs ts xs ys t p.x p.y = r := ⟨_, rfl⟩
      rw [hr]
      have hrH := Lib.hid hr
      have d0 : w2.cell? ⟨wr.heap.size, 0, none⟩ = some (.int .i64 p.x) := (hb2.cell (p := ⟨wr.heap.size, 0, none⟩) (by simp)).trans (by go_simp)
      have d1 : w2.cell? ⟨wr.heap.size, 1, none⟩ = some (.int .i64 p.y) := (hb2.cell (p := ⟨wr.heap.size, 1, none⟩) (by simp)).trans (by go_simp)
      have hB2 : Below wr.heap.size wr w2 := by exact bel_
      have s2 : wr.heap.size < w2.heap.size := Nat.lt_of_lt_of_le (by simp) hb2.size
      have hO2 := Lib.hid (ownsRow_below hO.out hB2)
      have hP2 := Lib.hid (ownsRow_below hP.out hB2)
      have hbw2 := Lib.hid (hbw.out.trans (hB2.mono sw))
      clear hb2 hB2 hr p0 p1 c00 c01 c02 c1' c2' hbA hO hP hbw l0 l1 l2 hbwr
      by_cases h0 : r.2 = 0
      · have hnx := Lib.hid (hyes2.out k p hpH.out (by rw [hrH.out]; exact h0))
        obtain ⟨K, hK⟩ : ∃ K, keepV gs ts xs ys t k = K := ⟨_, rfl⟩
        have hKl : K.length ≤ k := by rw [← hK]; exact hkeep.out k
        rw [hK] at hO2 hnx
        have h0b : (r.2 == 0) = true := by simp [h0]
        obtain ⟨L, hL⟩ : ∃ L, r.1.length = L := ⟨_, rfl⟩
        rw [hL]
        clear hK hL
        go_upto_region 8 with fail
        obtain ⟨w3, hw3⟩ : ∃ W, W = w2.alloc (Obj.cells #[.slice B L c5] 35) := ⟨_, rfl⟩
        have x0 : w3.cell? ⟨wr.heap.size, 0, none⟩ = some (.int .i64 p.x) := by rw [hw3]; go_simp
        have x1 : w3.cell? ⟨wr.heap.size, 1, none⟩ = some (.int .i64 p.y) := by rw [hw3]; go_simp
        have x2 : w3.cell? ⟨w2.heap.size, 0, none⟩ = some (.slice B L c5) := by rw [hw3]; go_simp
        have hrow3 : Hid (w3.rowIs w2.heap.size 35 1 (fun i => (#[.slice B L c5] : Array Value).getD i undef)) := Lib.hid (by rw [hw3]; exact ⟨_, World.alloc_heap_new _ _, rfl, fun i hi => by simp [hi]⟩)
        have s3 : w2.heap.size < w3.heap.size := by rw [hw3]; simp
        have hO3 : Hid (w3.ownsRow w1.heap.size 44 2 vo K.length (ptCells K)) := Lib.hid (by rw [hw3]; exact hO2.out.alloc _)
        have hP3 : Hid (w3.ownsRow w1.heap.size 35 1 vr nr rs) := Lib.hid (by rw [hw3]; exact hP2.out.alloc _)
        have hbw3 : Hid (Below w1.heap.size w1 w3) := Lib.hid (by rw [hw3]; exact hbw2.out.trans ((bl_al (bl_refl _) _).mono (by omega)))
        rw [← hw3]
        clear hw3 d0 d1 hO2 hP2 hbw2
        have hne3 := own_ne_row hO3.out hrow3.out (by decide)
        go_wp2_with (first
          | (at_builtin; refine wpList_append_own _ rfl _ _ 51 rfl w1.heap.size 44 i2 (.agg #[.int .i64 0, .int .i64 0]) 2 16 Tryz.underlying51 hi2 hz02 hz12 hz22 rfl (by decide) _ _ _ rfl (hO3.out.alloc _) ⟨w3.heap.size, 0, none⟩ 1 1 [.int .i64 p.x, .int .i64 p.y] rfl rfl (cell_two_newV _ _ _ _) (fun x hx => by simp at hx; rcases hx with rfl | rfl <;> rfl) (by unfold maxLen; omega) (by omega) (by simp; omega) ?_; intro v5 w5 hown5 hgrow5 _; have hP5 := Lib.hid ((hP3.out.alloc _).kept hgrow5 (own_apart hP3.out hO3.out (by decide))); have z2 := (World.cell?_of_block (a := ⟨w2.heap.size, 0, none⟩) (hgrow5.block w2.heap.size (Nat.lt_of_lt_of_le s3 (by simp)) (fun e => hne3 e.symm))).trans ((World.cell?_alloc_lt _ _ _ s3).trans x2); have hbw5 := Lib.hid (hbw3.out.trans (((Below.refl w1.heap.size w3).alloc (by omega) _).grown hgrow5 (Nat.le_trans (show w1.heap.size ≤ w3.heap.size by omega) (by simp)) (fun g e => (hO3.out.lt g e).1))); have s5 : w2.heap.size < w5.heap.size := Nat.lt_of_lt_of_le s3 (Nat.le_trans (by simp) hgrow5.size); have hO5 := Lib.hid hown5; clear hown5 hgrow5)
          | (at_builtin; refine wpList_append_own _ rfl _ _ 94 rfl w1.heap.size 35 i3 (.agg #[.slice none 0 0]) 1 24 Tryz.underlying94 hi3 hz03 hz13 hz23 rfl (by decide) _ _ _ rfl (hP5.out.alloc _) ⟨w5.heap.size, 0, none⟩ 1 1 [.slice B L c5] rfl rfl (cell_one_newV _ _ _) (fun x hx => by simp at hx; subst hx; rfl) (by unfold maxLen; omega) (by omega) (by simp; omega) ?_; intro v6 w6 hown6 hgrow6 _; have hO6 := Lib.hid ((hO5.out.alloc _).kept hgrow6 (own_apart hO5.out hP5.out (by decide))); have hbw6 := Lib.hid (hbw5.out.trans (((Below.refl w1.heap.size w5).alloc (by omega) _).grown hgrow6 (Nat.le_trans (show w1.heap.size ≤ w5.heap.size by omega) (by simp)) (fun g e => (hP5.out.lt g e).1))); have hP6 := Lib.hid hown6; clear hown6 hgrow6))
        go_roundg (n1 - (k + 1))
        case measure => omega
        case rel => exact ⟨k + 1, v5, v6, _, nr + 1, by omega, by go_num, rfl, rfl, by omega, Lib.hid (by rw [hnx.out, ptCells_snoc, List.length_append]; exact hO6.out), hP6, hbw6⟩
      · have hnx := Lib.hid (hno2.out k p hpH.out (by rw [hrH.out]; exact h0))
        have h0b : (r.2 == 0) = false := by simpa using h0
        go_wp2
        go_roundg (n1 - (k + 1))
        case measure => omega
        case rel => exact ⟨k + 1, vo, vr, rs, nr, by omega, by go_num, rfl, rfl, by omega, Lib.hid (by rw [hnx.out]; exact hO2.out.alloc _), Lib.hid (hP2.out.alloc _), Lib.hid (hbw2.out.trans ((bl_al (bl_refl _) _).mono (by omega)))⟩
    · obtain rfl : k = n1 := by omega
      go_wp2
      go_ret2
      refine ⟨vo, vr, rfl, ?_, hbw1.out.trans (hbw.out.mono (by omega))⟩
      rw [hfin.out]
      exact ownsRow_baseU hO.out (by omega)
def PtsV (w : World) (r : List Pt × Int) (e : Ending) (w' : World) : Prop :=
  ∃ A c, e = .returned (.tuple #[.slice A r.1.length c, .int .i64 r.2]) ∧ w'.ownsRow w.heap.size 44 2 (.slice A r.1.length c) r.1.length (ptCells r.1) ∧ Below w.heap.size w w'
theorem PtsV.nil {w w' : World} {r : List Pt × Int} {c : Int} (h : (([], c) : List Pt × Int) = r) (hb : Below w.heap.size w w') : PtsV w r (.returned (.tuple #[.slice none 0 0, .int .i64 c])) w' := by
  subst h
  exact ⟨none, 0, rfl, World.ownsRow_nil _ _ _ _, hb⟩
theorem PtsV.of {w w' : World} {r : List Pt × Int} {L : List Pt} {c : Int} {v : Value} {base : Nat} (h : (L, c) = r) (hr : w'.ownsRow base 44 2 v L.length (ptCells L)) (hbase : w.heap.size ≤ base) (hb : Below w.heap.size w w') : PtsV w r (.returned (.tuple #[v, .int .i64 c])) w' := by
  subst h
  obtain ⟨A, cap, rfl, _⟩ := rdPt_of_row hr
  exact ⟨A, cap, rfl, ownsRow_baseU hr hbase, hb⟩
set_option maxRecDepth 100000 in
set_option maxHeartbeats 4000000 in
theorem Combinations_any (G T A C : Option Addr) (n cg m ct q ca nb cb : Nat) (gs : List Gl) (ts : List Ti) (xs ys : List Pl) (t : Int) (w : World) (hS : SA w G n T m A q gs ts xs) (hS2 : SA w G n T m C nb gs ts ys) :
    Calls Tryz.prog 19 #[.agg #[.slice G n cg, .slice T m ct], .int .i64 t, .agg #[.slice A q ca], .agg #[.slice C nb cb]] w (PtsV w (combosR gs ts xs ys t)) := by
  have hq1 := hS.q
  have hq2 := hS2.q
  have hSH := Lib.hid hS
  have hS2H := Lib.hid hS2
  have hcd := codeH_two gs ts xs ys t
  clear hS hS2
  cases hk : askJ gs ts xs ys
  · rw [hk, if_pos rfl] at hcd
    have hrH := Lib.hid (show (([], 1) : List Pt × Int) = combosR gs ts xs ys t by unfold combosR; rw [if_pos hk])
    have hcdH := Lib.hid hcd
    clear hk hcd
    go_enter Tryz.func19, Tryz.ntmps19
    go_wp2_with fail
    refine (handsCode_any (N := 2) (Ls := [xs, ys]) (hSH.out.toTS.below (by exact bel_)) (lrow_two (g := w.heap.size + 1 + 1 + 1 + 1) (A := A) (C := C) (q := q) (ca := ca) (nb := nb) (cb := cb) (by simp) (by go_simp) (by go_simp) (hSH.out.A.below RPl.stable (by exact bel_)) (hS2H.out.A.below RPl.stable (by exact bel_)) hq1 hq2) rfl (by decide)).mono ?_
    rw [hcdH.out]
    rintro e w1 ⟨rfl, hb1⟩
    have hb10 := Lib.hid (show Below w.heap.size w w1 by exact bel_)
    go_wp2
    go_ret2
    exact PtsV.nil hrH.out hb10.out
  · cases hT : inB t 1 16
    · rw [hk, hT, if_neg (by decide), if_pos rfl] at hcd
      have hrH := Lib.hid (show (([], 2) : List Pt × Int) = combosR gs ts xs ys t by unfold combosR; rw [if_neg (by rw [hk]; decide), if_pos hT])
      have hcdH := Lib.hid hcd
      clear hk hcd hT
      go_enter Tryz.func19, Tryz.ntmps19
      go_wp2_with fail
      refine (handsCode_any (N := 2) (Ls := [xs, ys]) (hSH.out.toTS.below (by exact bel_)) (lrow_two (g := w.heap.size + 1 + 1 + 1 + 1) (A := A) (C := C) (q := q) (ca := ca) (nb := nb) (cb := cb) (by simp) (by go_simp) (by go_simp) (hSH.out.A.below RPl.stable (by exact bel_)) (hS2H.out.A.below RPl.stable (by exact bel_)) hq1 hq2) rfl (by decide)).mono ?_
      rw [hcdH.out]
      rintro e w1 ⟨rfl, hb1⟩
      have hb10 := Lib.hid (show Below w.heap.size w w1 by exact bel_)
      go_wp2
      go_ret2
      exact PtsV.nil hrH.out hb10.out
    · rw [hk, hT, if_neg (by decide), if_neg (by decide)] at hcd
      have hrH := Lib.hid (show (keepV gs ts xs ys t (vecsP gs ts xs ys).length, (0 : Int)) = combosR gs ts xs ys t by unfold combosR; rw [if_neg (by rw [hk]; decide), if_neg (by rw [hT]; decide)])
      have hk2 : validAsmB gs ts xs = true ∧ validAsmB gs ts ys = true := by unfold askJ at hk; simpa using hk
      have hV := Lib.hid (valid_of hk2.1)
      have hV2 := Lib.hid (valid_of hk2.2)
      have hT1 : 1 ≤ t := (inB_true.1 hT).1
      have hcdH := Lib.hid hcd
      clear hk hcd hT hk2
      go_enter Tryz.func19, Tryz.ntmps19
      go_wp2_with fail
      refine (handsCode_any (N := 2) (Ls := [xs, ys]) (hSH.out.toTS.below (by exact bel_)) (lrow_two (g := w.heap.size + 1 + 1 + 1 + 1) (A := A) (C := C) (q := q) (ca := ca) (nb := nb) (cb := cb) (by simp) (by go_simp) (by go_simp) (hSH.out.A.below RPl.stable (by exact bel_)) (hS2H.out.A.below RPl.stable (by exact bel_)) hq1 hq2) rfl (by decide)).mono ?_
      rw [hcdH.out]
      rintro e w1 ⟨rfl, hb1⟩
      have hb10 := Lib.hid (show Below w.heap.size w w1 by exact bel_)
      obtain ⟨chb1, fhb1, shb1, thb1⟩ := bcell hb1
      have s1 := shb1 (w.heap.size + 1) (by go_simp)
      have s2 := shb1 (w.heap.size + 1 + 1) (by go_simp)
      have s3 := shb1 (w.heap.size + 1 + 1 + 1) (by go_simp)
      go_wp2_with fail
      refine (combinations_any G T A C n cg m ct q ca nb cb gs ts xs ys t _ (hSH.out.below (show Below w.heap.size w w1 from hb10.out)) (hS2H.out.A.below RPl.stable hb10.out) hV.out hV2.out hT1).mono ?_
      rintro e w2 ⟨v1, v2, rfl, hown, hb2⟩
      have hge : w.heap.size ≤ w1.heap.size := by omega
      have hbw2 := Lib.hid (hb10.out.trans (hb2.mono hge))
      have hownH := Lib.hid hown
      clear hb2 hown hb1 chb1 fhb1 shb1 thb1
      go_wp2
      go_ret2
      exact PtsV.of hrH.out hownH.out hge hbw2.out
end Go.Proofs.YtedihnokcpnikaaGreat
/- Walks: Combine, the reference. -/


namespace Go.Proofs.YtedihnokcpnikaaGreat
open Go.RowKit Go.Shelf
attribute [local go_sem] BelowBy.cell BelowBy.cell_drew stillUpon givesUpon BelowBy.cell_drew2 BelowBy.cell_drew3

theorem sTempH_at {t : Int} {v : Bool} {w : World} (h : inB t 1 16 = v) : Calls Tryz.prog 34 #[.int .i64 t] w fun e w' => e = .returned (.bool v) ∧ w = w' := by
  subst h
  go_enter Tryz.func34, Tryz.ntmps34
  go_wp2_with (go_at_call 63; refine (l00In_any _ _ _ _).mono ?_; rintro e _ ⟨rfl, rfl⟩)
  go_ret
  exact ⟨ret_bool rfl, rfl⟩
set_option maxRecDepth 100000 in
set_option maxHeartbeats 2000000 in
theorem l29Normal_any {gs : List Gl} {ts : List Ti} (p : Nat) (zs : List Pl) (e : Pl) (w : World) (ha : AsmAt w p 0 zs) (hV : Valid gs ts zs) (he : zs[0]? = some e) :
    Calls Tryz.prog 67 #[.pointer (some ⟨p, 0, none⟩)] w (MvOwn w (-e.x) (-e.y) zs) := by
  obtain ⟨hlt, ⟨A, n, c, h1, h2⟩⟩ := id ha
  have hl := h2.len
  have hn0 : 0 < n := by have := lt_of_get he; omega
  have hnI : (0 : Int) < (n : Int) := by omega
  have hn5 : zs.length ≤ 500 := hV.len
  have hpt := Lib.hid hV.pt
  obtain ⟨ex, ey⟩ := hV.pt 0 e he
  obtain ⟨b, o, rfl, hb, hc⟩ := h2.ptr hn0
  obtain ⟨c0, c1, c2⟩ := hc 0 e he
  simp only [Nat.zero_mul, Nat.add_zero] at c0 c1 c2
  have haH := Lib.hid ha
  have hlH := Lib.hid hl
  clear ha h2 hc hV he hl
  go_enter Tryz.func67, Tryz.ntmps67
  go_wp2_with fail
  refine (l03Move_own p zs (-e.x) (-e.y) _ (haH.out.below (by exact bel_)) (by omega) hpt.out (by omega) (by omega)).mono ?_
  rintro e' w1 ⟨B, m, c', rfl, hrow, hb1⟩
  have r0 : w1.cell? ⟨w.heap.size, 0, none⟩ = some (.slice none 0 0) := (hb1.cell (p := ⟨w.heap.size, 0, none⟩) (by simp; omega)).trans (by go_simp)
  have rf : w1.frozen? ⟨w.heap.size, 0, none⟩ = false := (hb1.frozen (p := ⟨w.heap.size, 0, none⟩) (by simp; omega)).trans (by go_simp)
  have hs1 : w.heap.size + 1 < w1.heap.size ∨ w.heap.size + 1 ≤ w1.heap.size := Or.inr (by have := hb1.size; simp at this; omega)
  have hs2 : w.heap.size < w1.heap.size := by have := hb1.size; simp at this; omega
  have hbw1 := Lib.hid (show Below w.heap.size w w1 by exact bel_)
  obtain ⟨v, hv⟩ : ∃ v, mvOk (-e.x) (-e.y) zs = v := ⟨_, rfl⟩
  rw [hv] at hrow ⊢
  have hvH := Lib.hid hv
  have hrowH := Lib.hid hrow
  clear hb1 hrow hv
  go_wp2
  refine bodyPost_ret (v := .tuple #[.agg #[.slice B m c'], .bool v]) (by simp only [results, Tryz.results67]; go_simp) rfl ?_
  refine ⟨B, m, c', by rw [hvH.out], fun ho => ?_, hbw1.out.setCell (p := ⟨w.heap.size, 0, none⟩) (by simp) _⟩
  obtain ⟨rfl, hrw⟩ := hrowH.out (hvH.out.symm.trans ho)
  refine ⟨rfl, ownsRow_baseU (base := w.heap.size + 1) (ownsRow_setCell_below ?_ (by simp) _) (by omega)⟩
  exact ownsRow_baseU hrw (by simp)
theorem l29Moved_at {p : Nat} {xs : List Pl} {dx dy : Int} {v : Bool} {w : World} (ha : AsmAt w p 0 xs) (hn : xs.length ≤ 100000) (hxy : ∀ (k : Nat) (e : Pl), xs[k]? = some e → (-60 ≤ e.x ∧ e.x ≤ 60) ∧ (-60 ≤ e.y ∧ e.y ≤ 60)) (hv : okM dx dy xs = v) :
    Calls Tryz.prog 64 #[.pointer (some ⟨p, 0, none⟩), .agg #[.int .i64 dx, .int .i64 dy]] w fun e w' => ∃ B m c', e = .returned (.tuple #[.agg #[.slice B m c'], .bool v]) ∧ (v = true → m = xs.length ∧ RdSl 3 RPl w' B m (mvL dx dy xs)) ∧ Below w.heap.size w w' := by
  subst hv; exact l29Moved_any p xs dx dy w ha hn hxy
theorem l29Strength_at {p pa pc : Nat} {gs : List Gl} {ts : List Ti} {xs ms : List Pl} {s k : Int} {w : World} (h : SAt w p 0 pa 0 gs ts xs) (hc : AsmAt w pc 0 ms) (hV : Valid gs ts xs) (hml : ms.length ≤ 500)
    (hpt : ∀ (k : Nat) (e : Pl), ms[k]? = some e → (-60 ≤ e.x ∧ e.x ≤ 60) ∧ (-60 ≤ e.y ∧ e.y ≤ 60) ∧ ∃ t : Nat, e.t = t ∧ t < ts.length) (hj : joinE gs ts xs ms = (s, k)) :
    Calls Tryz.prog 65 #[.pointer (some ⟨p, 0, none⟩), .pointer (some ⟨pa, 0, none⟩), .pointer (some ⟨pc, 0, none⟩)] w fun e w' => e = .returned (.tuple #[.int .i64 s, .int .i64 k]) ∧ Below w.heap.size w w' := by
  have := l29Strength_any p pa pc gs ts xs ms w h hc hV hml hpt
  rw [hj] at this
  exact this
theorem joinM_split {gs : List Gl} {ts : List Ti} {xs ys : List Pl} {dx dy : Int} : (okM dx dy ys = false → joinM gs ts xs ys dx dy = (0, 2)) ∧ (okM dx dy ys = true → joinM gs ts xs ys dx dy = joinE gs ts xs (mvL dx dy ys) ∧ mvOk dx dy ys = true) := by
  unfold okM joinM
  cases hx : inB dx (-120) 120
  · simp
  · cases hy : inB dy (-120) 120
    · simp
    · cases hm : mvOk dx dy ys
      · simp
      · simp
set_option maxRecDepth 100000 in
set_option maxHeartbeats 4000000 in
theorem l29Combine_any (p pa pb : Nat) (gs : List Gl) (ts : List Ti) (xs ys : List Pl) (t dx dy : Int) (w : World) (hS : SAt w p 0 pa 0 gs ts xs) (hb : AsmAt w pb 0 ys) (hV : Valid gs ts xs) (hV2 : Valid gs ts ys) (ht : 1 ≤ t) :
    Calls Tryz.prog 35 #[.pointer (some ⟨p, 0, none⟩), .int .i64 t, .pointer (some ⟨pa, 0, none⟩), .pointer (some ⟨pb, 0, none⟩), .agg #[.int .i64 dx, .int .i64 dy]] w (AsmRes w (combE gs ts xs ys t dx dy)) := by
  have hl5 := hV.len
  have hlb5 := hV2.len
  have hSH := Lib.hid hS
  have hbH := Lib.hid hb
  have hVH := Lib.hid hV
  have hpt2 := Lib.hid hV2.pt
  have hsp := joinM_split (gs := gs) (ts := ts) (xs := xs) (ys := ys) (dx := dx) (dy := dy)
  cases ho : okM dx dy ys
  · have hrH := Lib.hid (combE_code (T := t) (hsp.1 ho) (by decide))
    have hoH := Lib.hid ho
    clear hS hb hV hV2 hsp ho
    go_enter Tryz.func35, Tryz.ntmps35
    go_wp2_with fail
    refine (l29Moved_at (hbH.out.below (by exact bel_)) (by omega) hpt2.out hoH.out).mono ?_
    rintro e w1 ⟨B, m', c', rfl, hrd, hb1⟩
    have hb10 := Lib.hid (show Below w.heap.size w w1 by exact bel_)
    obtain ⟨chb1, fhb1, shb1, thb1⟩ := bcell hb1
    have s1 := shb1 (w.heap.size + 1) (by go_simp)
    clear hrd
    go_wp2
    refine bodyPost_ret (v := .tuple #[.agg #[.slice none 0 0], .int .i64 2]) (by simp only [results, Tryz.results35]; go_simp) rfl ?_
    exact AsmRes.lift (base := w.heap.size) hrH.out rfl (World.ownsRow_nil _ _ _ _) (Nat.le_refl _) ((hb10.out.setCell (p := ⟨w.heap.size + 1, 0, none⟩) (by simp) _).alloc (by simp; omega) _)
  · obtain ⟨hje, hmv⟩ := hsp.2 ho
    obtain ⟨s, k, hj⟩ : ∃ s k, joinE gs ts xs (mvL dx dy ys) = (s, k) := ⟨_, _, rfl⟩
    have hjm := hje.trans hj
    have hml := mvL_len dx dy ys
    have hptm := Lib.hid (fun (k : Nat) (e : Pl) (h : (mvL dx dy ys)[k]? = some e) => mv_pt hV2 hmv h)
    have hoH := Lib.hid ho
    have hjH := Lib.hid hj
    by_cases hk : k = 0
    · subst hk
      by_cases hst : s < t
      · have hrH := Lib.hid (combE_weak hjm hst)
        clear hS hb hV hV2 hsp ho hje hmv hj hjm
        go_enter Tryz.func35, Tryz.ntmps35
        go_wp2_with fail
        refine (l29Moved_at (hbH.out.below (by exact bel_)) (by omega) hpt2.out hoH.out).mono ?_
        rintro e w1 ⟨B, m', c', rfl, hrd, hb1⟩
        obtain ⟨rfl, hrd⟩ := hrd rfl
        have hb10 := Lib.hid (show Below w.heap.size w w1 by exact bel_)
        have hrdH := Lib.hid hrd
        have s1 : w.heap.size + 1 < w1.heap.size := by have := hb1.size; simp at this; omega
        have y1 : w1.cell? ⟨w.heap.size + 1, 0, none⟩ = some (.slice none 0 0) := (hb1.cell (p := ⟨w.heap.size + 1, 0, none⟩) (by simp)).trans (by go_simp)
        have k1 : w1.frozen? ⟨w.heap.size + 1, 0, none⟩ = false := (hb1.frozen (p := ⟨w.heap.size + 1, 0, none⟩) (by simp)).trans (by go_simp)
        clear hrd hb1
        go_wp2_with fail
        refine (l29Strength_at (hSH.out.below (hb10.out.trans (show Below w.heap.size w1 _ from Below.mono (show Below w1.heap.size w1 _ by exact bel_) (by omega)))) ⟨by simp, B, ys.length, c', by go_simp, hrdH.out.below RPl.stable (by exact bel_)⟩ hVH.out (by omega) hptm.out hjH.out).mono ?_
        rintro e w2 ⟨rfl, hb2⟩
        have hb20 := Lib.hid (hb10.out.trans (show Below w.heap.size w1 w2 from Below.mono (show Below w1.heap.size w1 w2 by exact bel_) (by omega)))
        have s2 : w.heap.size + 1 < w2.heap.size := by have := hb2.size; simp at this; omega
        have y2 : w2.cell? ⟨w.heap.size + 1, 0, none⟩ = some (.slice none 0 0) := (hb2.cell (p := ⟨w.heap.size + 1, 0, none⟩) (by simp; omega)).trans (by go_simp)
        have k2 : w2.frozen? ⟨w.heap.size + 1, 0, none⟩ = false := (hb2.frozen (p := ⟨w.heap.size + 1, 0, none⟩) (by simp; omega)).trans (by go_simp)
        clear hb2 y1 k1
        go_wp2
        refine bodyPost_ret (v := .tuple #[.agg #[.slice none 0 0], .int .i64 5]) (by simp only [results, Tryz.results35]; go_simp) rfl ?_
        exact AsmRes.lift (base := w.heap.size) hrH.out rfl (World.ownsRow_nil _ _ _ _) (Nat.le_refl _) (hb20.out.setCell (p := ⟨w.heap.size + 1, 0, none⟩) (by simp) _)
      · obtain ⟨_, _, _, h2, hsum⟩ := joinM_ok hV hV2 hjm
        obtain ⟨e0, he0⟩ := join_first (xs := xs) ht hst hsum
        have hfu : Hid (500 < xs.length + ys.length → (([], 4) : List Pl × Int) = combE gs ts xs ys t dx dy) := Lib.hid (fun h => combE_full hjm hst h)
        have hnm : Hid (¬ 500 < xs.length + ys.length → normE (sortPl (xs ++ mvL dx dy ys)) = combE gs ts xs ys t dx dy) := Lib.hid (fun h => combE_norm hjm hst h)
        have hVz : Hid (¬ 500 < xs.length + ys.length → Valid gs ts (sortPl (xs ++ mvL dx dy ys))) := Lib.hid (fun h => h2.valid (by omega))
        have he0H := Lib.hid he0
        have h2H := Lib.hid h2
        obtain ⟨hlta, ⟨A, q, ca, ha1, ha2⟩⟩ := hS.a
        obtain ⟨hltb, ⟨C, nb, cb, hb1', hb2'⟩⟩ := hb
        have hq := ha2.len
        have hnb := hb2'.len
        have ha1H := Lib.hid ha1
        have hb1H := Lib.hid hb1'
        obtain ⟨ms, hms⟩ : ∃ ms, mvL dx dy ys = ms := ⟨_, rfl⟩
        rw [hms] at hml hptm hjH hnm hVz he0H h2H
        have hmsH := Lib.hid hms
        have hzl : (sortPl (xs ++ ms)).length = q + nb := by rw [sortPl_len, List.length_append, hml, hq, hnb]
        have hzlH := Lib.hid hzl
        have hq5 : q ≤ 500 := by omega
        have hnb5 : nb ≤ 500 := by omega
        clear hS hV hV2 hsp ho hje hmv hj hjm h2 hsum he0 ha1 ha2 hb1' hb2' hms hzl
        go_enter Tryz.func35, Tryz.ntmps35
        go_wp2_with fail
        refine (l29Moved_at (hbH.out.below (by exact bel_)) (by omega) hpt2.out hoH.out).mono ?_
        rintro e w1 ⟨B, m', c', rfl, hrd, hb1⟩
        obtain ⟨rfl, hrd⟩ := hrd rfl
        rw [hmsH.out] at hrd
        have hb10 := Lib.hid (show Below w.heap.size w w1 by exact bel_)
        have hrdH := Lib.hid hrd
        have s1 : w.heap.size + 1 < w1.heap.size := by have := hb1.size; simp at this; omega
        have y1 : w1.cell? ⟨w.heap.size + 1, 0, none⟩ = some (.slice none 0 0) := (hb1.cell (p := ⟨w.heap.size + 1, 0, none⟩) (by simp)).trans (by go_simp)
        have k1 : w1.frozen? ⟨w.heap.size + 1, 0, none⟩ = false := (hb1.frozen (p := ⟨w.heap.size + 1, 0, none⟩) (by simp)).trans (by go_simp)
        clear hrd hb1
        go_wp2_with fail
        refine (l29Strength_at (hSH.out.below (hb10.out.trans (show Below w.heap.size w1 _ from Below.mono (show Below w1.heap.size w1 _ by exact bel_) (by omega)))) ⟨by simp, B, ys.length, c', by go_simp, hrdH.out.below RPl.stable (by exact bel_)⟩ hVH.out (by omega) hptm.out hjH.out).mono ?_
        rintro e w2 ⟨rfl, hb2⟩
        have hB12 : Below w1.heap.size w1 w2 := by exact bel_
        have hb20 := Lib.hid (hb10.out.trans (show Below w.heap.size w1 w2 from Below.mono hB12 (by omega)))
        have s20 : w1.heap.size < w2.heap.size := Nat.lt_of_lt_of_le (by simp) hb2.size
        have s2 : w.heap.size + 1 < w2.heap.size := by omega
        have y2 : w2.cell? ⟨w.heap.size + 1, 0, none⟩ = some (.slice none 0 0) := (hb2.cell (p := ⟨w.heap.size + 1, 0, none⟩) (by simp; omega)).trans (by go_simp)
        have k2 : w2.frozen? ⟨w.heap.size + 1, 0, none⟩ = false := (hb2.frozen (p := ⟨w.heap.size + 1, 0, none⟩) (by simp; omega)).trans (by go_simp)
        have hmat : Hid (AsmAt w2 w1.heap.size 0 ms) := Lib.hid ⟨s20, B, ys.length, c', (hb2.cell (p := ⟨w1.heap.size, 0, none⟩) (by simp)).trans (by go_simp), hrdH.out.below RPl.stable hB12⟩
        have pa2 : w2.cell? ⟨pa, 0, none⟩ = some (.slice A q ca) := (hb20.out.cell (p := ⟨pa, 0, none⟩) hlta).trans ha1H.out
        have pb2 : w2.cell? ⟨pb, 0, none⟩ = some (.slice C nb cb) := (hb20.out.cell (p := ⟨pb, 0, none⟩) hltb).trans hb1H.out
        have la2 : pa < w2.heap.size := by omega
        have lb2 : pb < w2.heap.size := by omega
        clear hb2 y1 k1 hB12
        have hwr : IntKind.i64.wrap ((q : Int) + (nb : Int)) = (q : Int) + (nb : Int) := wrap_in (by omega) (by omega)
        by_cases hbig : 500 < q + nb
        · have hbigI : (500 : Int) < (q : Int) + (nb : Int) := by omega
          go_wp2
          refine wp_region_ord [(0, .q), (1, .q), (2, .q), (3, .q), (4, .q), (5, .q), (6, .q), (7, .q), (8, .q), (9, .q), (10, .q), (11, .q)] (by kernel_rfl) (by kernel_rfl) ?_
          simp only [pick, List.filterMap_cons, List.filterMap_nil, List.getElem?_toArray, List.getElem?_cons_zero, List.getElem?_cons_succ, Option.map_some]
          repeat (first
            | ((with_reducible refine wpD_p (fun K hK => ?_)); go_simp; refine hK _ ?_; clear hK K)
            | ((with_reducible refine wpD_q (fun K hK => ?_)); go_simp; (first | refine hK _ ?_ | (go_bits; refine hK _ ?_) | (go_bits; go_simp; refine hK _ ?_)); clear hK K)
            | ((with_reducible refine wpD_g (fun K hK => ?_)); go_simp; refine hK _ _ ?_; clear hK K)
            | ((with_reducible refine wpD_g (fun K hK => ?_)); go_simp; refine ⟨Grew.of_alloc _, hK _ _ ?_⟩; clear hK K))
          with_reducible refine wpD_nil ?_
          go_wp2
          refine bodyPost_ret (v := .tuple #[.agg #[.slice none 0 0], .int .i64 4]) (by simp only [results, Tryz.results35]; go_simp) rfl ?_
          exact AsmRes.lift (base := w.heap.size) (hfu.out (by omega)) rfl (World.ownsRow_nil _ _ _ _) (Nat.le_refl _) ((hb20.out.trans (show Below w.heap.size w2 w2.drew from (Below.refl _ _).drew)).setCell (p := ⟨w.heap.size + 1, 0, none⟩) (by simp) _)
        · have hbigI : ¬ (500 : Int) < (q : Int) + (nb : Int) := by omega
          go_wp2
          refine wp_region_ord [(0, .q), (1, .q), (2, .q), (3, .q), (4, .q), (5, .q), (6, .q), (7, .q), (8, .q), (9, .q), (10, .q), (11, .q)] (by kernel_rfl) (by kernel_rfl) ?_
          simp only [pick, List.filterMap_cons, List.filterMap_nil, List.getElem?_toArray, List.getElem?_cons_zero, List.getElem?_cons_succ, Option.map_some]
          repeat (first
            | ((with_reducible refine wpD_p (fun K hK => ?_)); go_simp; refine hK _ ?_; clear hK K)
            | ((with_reducible refine wpD_q (fun K hK => ?_)); go_simp; (first | refine hK _ ?_ | (go_bits; refine hK _ ?_) | (go_bits; go_simp; refine hK _ ?_)); clear hK K)
            | ((with_reducible refine wpD_g (fun K hK => ?_)); go_simp; refine hK _ _ ?_; clear hK K)
            | ((with_reducible refine wpD_g (fun K hK => ?_)); go_simp; refine ⟨Grew.of_alloc _, hK _ _ ?_⟩; clear hK K))
          with_reducible refine wpD_nil ?_
          have hBd : Below w2.heap.size w2 w2.drew := bl_dr (bl_refl _)
          generalize w2.drew = w3 at hBd ⊢
          have hb30 := Lib.hid (hb20.out.trans (show Below w.heap.size w2 w3 from Below.mono hBd (by omega)))
          have hmat3 := Lib.hid (hmat.out.below hBd)
          have s3 : w.heap.size + 1 < w3.heap.size := by have := hBd.size; omega
          replace y2 := (hBd.cell (p := ⟨w.heap.size + 1, 0, none⟩) s2).trans y2
          replace k2 := (hBd.frozen (p := ⟨w.heap.size + 1, 0, none⟩) s2).trans k2
          clear hBd pa2 pb2 la2 lb2 hmat hb20
          go_wp2_with fail
          refine (l03Join_any pa w1.heap.size gs ts xs ms _ (hSH.out.below hb30.out).a hmat3.out h2H.out (by omega)).mono ?_
          rintro e w4 ⟨D, c4, rfl, hown4, hb4⟩
          rw [hzlH.out] at hown4 ⊢
          have hb40 := Lib.hid (hb30.out.trans (show Below w.heap.size w3 w4 from Below.mono hb4 (by omega)))
          have s4 : w.heap.size + 1 < w4.heap.size := by have := hb4.size; omega
          replace y2 := (hb4.cell (p := ⟨w.heap.size + 1, 0, none⟩) s3).trans y2
          replace k2 := (hb4.frozen (p := ⟨w.heap.size + 1, 0, none⟩) s3).trans k2
          have hrd4 : RdSl 3 RPl w4 D (q + nb) (sortPl (xs ++ ms)) := rdPl hown4 hzlH.out.symm
          have hrd4H := Lib.hid hrd4
          clear hb4 hown4 hrd4
          go_wp2_with fail
          refine (l29Normal_any w4.heap.size (sortPl (xs ++ ms)) e0 _ ⟨by simp, D, q + nb, c4, by go_simp, hrd4H.out.below RPl.stable (by exact bel_)⟩ (hVz.out (by omega)) he0H.out).mono ?_
          rintro e w5 ⟨E, m5, c5, rfl, hrow, hb5⟩
          have hB45 : Below w4.heap.size w4 w5 := by exact bel_
          have hb50 := Lib.hid (hb40.out.trans (show Below w.heap.size w4 w5 from Below.mono hB45 (by omega)))
          have s5 : w.heap.size + 1 < w5.heap.size := by have := hB45.size; omega
          have sge : w.heap.size + 2 ≤ (w4.alloc (Obj.cells #[.slice D (q + nb) c4] 35)).heap.size := by simp; omega
          replace y2 := (hB45.cell (p := ⟨w.heap.size + 1, 0, none⟩) s4).trans y2
          replace k2 := (hB45.frozen (p := ⟨w.heap.size + 1, 0, none⟩) s4).trans k2
          have hnm2 := Lib.hid (hnm.out (by omega))
          clear hb5 hB45
          cases hm : mvOk (-e0.x) (-e0.y) (sortPl (xs ++ ms))
          · have hrH := Lib.hid ((normE_no he0H.out hm).trans hnm2.out)
            have hmH := Lib.hid hm
            clear hrow hm
            go_wp2
            refine bodyPost_ret (v := .tuple #[.agg #[.slice none 0 0], .int .i64 2]) (by simp only [results, Tryz.results35]; go_simp) rfl ?_
            exact AsmRes.lift (base := w.heap.size) hrH.out rfl (World.ownsRow_nil _ _ _ _) (Nat.le_refl _) ((hb50.out.setCell (p := ⟨w.heap.size + 1, 0, none⟩) (by simp) _).alloc (by simp; omega) _)
          · have hrH := Lib.hid ((normE_ok he0H.out hm).trans hnm2.out)
            obtain ⟨rfl, hrow⟩ := hrow hm
            have hrowH := Lib.hid (ownsRow_baseU hrow sge)
            have hz2 : (sortPl (xs ++ ms)).length = q + nb := hzlH.out
            rw [hz2] at hrowH ⊢
            have hz3 : (mvL (-e0.x) (-e0.y) (sortPl (xs ++ ms))).length = q + nb := by rw [mvL_len]; exact hz2
            have hz3H := Lib.hid hz3
            clear hrow hm hz2 hz3
            go_wp2
            refine bodyPost_ret (v := .tuple #[.agg #[.slice E (q + nb) c5], .int .i64 0]) (by simp only [results, Tryz.results35]; go_simp) rfl ?_
            exact AsmRes.lift (base := w.heap.size + 2) hrH.out hz3H.out ((ownsRow_setCell_below hrowH.out (by simp) _).alloc _) (by omega) ((hb50.out.setCell (p := ⟨w.heap.size + 1, 0, none⟩) (by simp) _).alloc (by simp; omega) _)
    · have hrH := Lib.hid (combE_code (T := t) hjm hk)
      have hk1 : (k != 0) = true := by simpa using hk
      clear hS hb hV hV2 hsp ho hje hmv hj hjm
      go_enter Tryz.func35, Tryz.ntmps35
      go_wp2_with fail
      refine (l29Moved_at (hbH.out.below (by exact bel_)) (by omega) hpt2.out hoH.out).mono ?_
      rintro e w1 ⟨B, m', c', rfl, hrd, hb1⟩
      obtain ⟨rfl, hrd⟩ := hrd rfl
      have hb10 := Lib.hid (show Below w.heap.size w w1 by exact bel_)
      have hrdH := Lib.hid hrd
      have s1 : w.heap.size + 1 < w1.heap.size := by have := hb1.size; simp at this; omega
      have y1 : w1.cell? ⟨w.heap.size + 1, 0, none⟩ = some (.slice none 0 0) := (hb1.cell (p := ⟨w.heap.size + 1, 0, none⟩) (by simp)).trans (by go_simp)
      have k1 : w1.frozen? ⟨w.heap.size + 1, 0, none⟩ = false := (hb1.frozen (p := ⟨w.heap.size + 1, 0, none⟩) (by simp)).trans (by go_simp)
      clear hrd hb1
      go_wp2_with fail
      refine (l29Strength_at (hSH.out.below (hb10.out.trans (show Below w.heap.size w1 _ from Below.mono (show Below w1.heap.size w1 _ by exact bel_) (by omega)))) ⟨by simp, B, ys.length, c', by go_simp, hrdH.out.below RPl.stable (by exact bel_)⟩ hVH.out (by omega) hptm.out hjH.out).mono ?_
      rintro e w2 ⟨rfl, hb2⟩
      have hb20 := Lib.hid (hb10.out.trans (show Below w.heap.size w1 w2 from Below.mono (show Below w1.heap.size w1 w2 by exact bel_) (by omega)))
      have s2 : w.heap.size + 1 < w2.heap.size := by have := hb2.size; simp at this; omega
      have y2 : w2.cell? ⟨w.heap.size + 1, 0, none⟩ = some (.slice none 0 0) := (hb2.cell (p := ⟨w.heap.size + 1, 0, none⟩) (by simp; omega)).trans (by go_simp)
      have k2 : w2.frozen? ⟨w.heap.size + 1, 0, none⟩ = false := (hb2.frozen (p := ⟨w.heap.size + 1, 0, none⟩) (by simp; omega)).trans (by go_simp)
      clear hb2 y1 k1
      go_wp2
      refine bodyPost_ret (v := .tuple #[.agg #[.slice none 0 0], .int .i64 k]) (by simp only [results, Tryz.results35]; go_simp) rfl ?_
      exact AsmRes.lift (base := w.heap.size) hrH.out rfl (World.ownsRow_nil _ _ _ _) (Nat.le_refl _) (hb20.out.setCell (p := ⟨w.heap.size + 1, 0, none⟩) (by simp) _)
theorem normE_len (zs : List Pl) : (normE zs).1.length ≤ zs.length := by
  cases zs with
  | nil => simp [normE]
  | cons e l =>
    show (if mvOk (-e.x) (-e.y) (e :: l) = true then (mvL (-e.x) (-e.y) (e :: l), (0 : Int)) else ([], 2)).1.length ≤ _
    split
    · rw [mvL_len]; exact Nat.le_refl _
    · simp
theorem combE_len (gs : List Gl) (ts : List Ti) (xs ys : List Pl) (t dx dy : Int) : (combE gs ts xs ys t dx dy).1.length ≤ 500 := by
  unfold combE
  split
  · split
    · simp
    · split
      · simp
      · have := normE_len (sortPl (xs ++ mvL dx dy ys))
        rw [sortPl_len, List.length_append, mvL_len] at this
        omega
  · simp
theorem combR_len (gs : List Gl) (ts : List Ti) (xs ys : List Pl) (t dx dy : Int) : (combR gs ts xs ys t dx dy).1.length ≤ 1073741824 := by
  unfold combR
  split
  · simp
  · split
    · simp
    · exact Nat.le_trans (combE_len gs ts xs ys t dx dy) (by decide)
theorem l29Asked_at {p pa pb : Nat} {gs : List Gl} {ts : List Ti} {xs ys : List Pl} {v : Bool} {w : World} (h : SAt w p 0 pa 0 gs ts xs) (hb : AsmAt w pb 0 ys) (hq2 : ys.length ≤ 1073741824) (hv : askJ gs ts xs ys = v) :
    Calls Tryz.prog 33 #[.pointer (some ⟨p, 0, none⟩), .pointer (some ⟨pa, 0, none⟩), .pointer (some ⟨pb, 0, none⟩)] w fun e w' => e = .returned (.int .i64 (codeB v)) ∧ Below w.heap.size w w' := by
  subst hv; exact l29Asked_any p pa pb gs ts xs ys w h hb hq2
set_option maxRecDepth 100000 in
set_option maxHeartbeats 4000000 in
theorem sCombine_any (G T A C : Option Addr) (n cg m ct q ca nb cb : Nat) (gs : List Gl) (ts : List Ti) (xs ys : List Pl) (t dx dy : Int) (w : World) (hS : SA w G n T m A q gs ts xs) (hS2 : SA w G n T m C nb gs ts ys) :
    Calls Tryz.prog 8 #[.agg #[.slice G n cg, .slice T m ct], .int .i64 t, .agg #[.slice A q ca], .agg #[.slice C nb cb], .agg #[.int .i64 dx, .int .i64 dy]] w (AsmRes w (combR gs ts xs ys t dx dy)) := by
  have hlb := hS2.A.len
  have hq2 := hS2.q
  have h0 := Lib.hid (hS.box cg ct ca)
  have hb0 : Hid (AsmAt (((w.alloc (Obj.cells #[.slice G n cg, .slice T m ct] 41)).alloc (Obj.cells #[.slice A q ca] 35)).alloc (Obj.cells #[.slice C nb cb] 35)) (w.heap.size + 1 + 1) 0 ys) :=
    Lib.hid ⟨by simp, C, nb, cb, by go_simp, hS2.A.below RPl.stable (by exact bel_)⟩
  clear hS hS2
  have hc1 := codeB_true
  have hc2 := codeB_false
  cases hk : askJ gs ts xs ys
  · have hrH := Lib.hid (show (([], 1) : List Pl × Int) = combR gs ts xs ys t dx dy by unfold combR; rw [if_pos hk])
    have hkH := Lib.hid hk
    clear hk
    go_enter Tryz.func8, Tryz.ntmps8
    go_wp2_with fail
    refine (l29Asked_at (h0.out.below (by exact bel_)) (hb0.out.below (by exact bel_)) (by omega) hkH.out).mono ?_
    rintro e w1 ⟨rfl, hb1⟩
    have hb10 := Lib.hid (show Below w.heap.size w w1 by exact bel_)
    obtain ⟨chb1, fhb1, shb1, thb1⟩ := bcell hb1
    have s4 := shb1 (w.heap.size + 1 + 1 + 1 + 1) (by go_simp)
    go_wp2
    refine bodyPost_ret (v := .tuple #[.agg #[.slice none 0 0], .int .i64 1]) (by simp only [results, Tryz.results8]; go_simp) rfl ?_
    exact AsmRes.lift (base := w.heap.size) hrH.out rfl (World.ownsRow_nil _ _ _ _) (Nat.le_refl _) (hb10.out.setCell (p := ⟨w.heap.size + 1 + 1 + 1 + 1, 0, none⟩) (by simp; omega) _)
  · cases hT : inB t 1 16
    · have hrH := Lib.hid (show (([], 2) : List Pl × Int) = combR gs ts xs ys t dx dy by unfold combR; rw [if_neg (by rw [hk]; decide), if_pos hT])
      have hkH := Lib.hid hk
      have hTH := Lib.hid hT
      clear hk hT
      go_enter Tryz.func8, Tryz.ntmps8
      go_wp2_with fail
      refine (l29Asked_at (h0.out.below (by exact bel_)) (hb0.out.below (by exact bel_)) (by omega) hkH.out).mono ?_
      rintro e w1 ⟨rfl, hb1⟩
      have hb10 := Lib.hid (show Below w.heap.size w w1 by exact bel_)
      obtain ⟨chb1, fhb1, shb1, thb1⟩ := bcell hb1
      have s4 := shb1 (w.heap.size + 1 + 1 + 1 + 1) (by go_simp)
      go_wp2_with (go_at_call 34; refine (sTempH_at hTH.out).mono ?_; rintro e _ ⟨rfl, rfl⟩)
      refine bodyPost_ret (v := .tuple #[.agg #[.slice none 0 0], .int .i64 2]) (by simp only [results, Tryz.results8]; go_simp) rfl ?_
      exact AsmRes.lift (base := w.heap.size) hrH.out rfl (World.ownsRow_nil _ _ _ _) (Nat.le_refl _) (hb10.out.setCell (p := ⟨w.heap.size + 1 + 1 + 1 + 1, 0, none⟩) (by simp; omega) _)
    · have hrH := Lib.hid (show combE gs ts xs ys t dx dy = combR gs ts xs ys t dx dy by unfold combR; rw [if_neg (by rw [hk]; decide), if_neg (by rw [hT]; decide)])
      have hk2 : validAsmB gs ts xs = true ∧ validAsmB gs ts ys = true := by unfold askJ at hk; simpa using hk
      have hV := Lib.hid (valid_of hk2.1)
      have hV2 := Lib.hid (valid_of hk2.2)
      have hT1 : 1 ≤ t := (inB_true.1 hT).1
      have hkH := Lib.hid hk
      have hTH := Lib.hid hT
      clear hk hT hk2
      go_enter Tryz.func8, Tryz.ntmps8
      go_wp2_with fail
      refine (l29Asked_at (h0.out.below (by exact bel_)) (hb0.out.below (by exact bel_)) (by omega) hkH.out).mono ?_
      rintro e w1 ⟨rfl, hb1⟩
      have hb10 := Lib.hid (show Below w.heap.size w w1 by exact bel_)
      have h1 := Lib.hid (h0.out.below (show Below _ _ w1 by exact bel_))
      have hb1' := Lib.hid (hb0.out.below (show Below _ _ w1 by exact bel_))
      have y4 : w1.cell? ⟨w.heap.size + 1 + 1 + 1 + 1, 0, none⟩ = some (.slice none 0 0) := (hb1.cell (p := ⟨w.heap.size + 1 + 1 + 1 + 1, 0, none⟩) (by simp)).trans (by go_simp)
      have k4 : w1.frozen? ⟨w.heap.size + 1 + 1 + 1 + 1, 0, none⟩ = false := (hb1.frozen (p := ⟨w.heap.size + 1 + 1 + 1 + 1, 0, none⟩) (by simp)).trans (by go_simp)
      obtain ⟨chb1, fhb1, shb1, thb1⟩ := bcell hb1
      have s3 := shb1 (w.heap.size + 1 + 1 + 1) (by go_simp)
      have s4 := shb1 (w.heap.size + 1 + 1 + 1 + 1) (by go_simp)
      go_wp2_with (go_at_call 34; refine (sTempH_at hTH.out).mono ?_; rintro e _ ⟨rfl, rfl⟩)
      refine (l29Combine_any w.heap.size (w.heap.size + 1) (w.heap.size + 1 + 1) gs ts xs ys t dx dy _ h1.out hb1'.out hV.out hV2.out hT1).mono ?_
      rintro e w2 ⟨B, c2, rfl, hown, hb2⟩
      obtain ⟨r, hr⟩ : ∃ r, combE gs ts xs ys t dx dy = r := ⟨_, rfl⟩
      rw [hr] at hown hrH ⊢
      replace y4 := (hb2.cell (p := ⟨w.heap.size + 1 + 1 + 1 + 1, 0, none⟩) s4).trans y4
      replace k4 := (hb2.frozen (p := ⟨w.heap.size + 1 + 1 + 1 + 1, 0, none⟩) s4).trans k4
      have s6 : w.heap.size + 1 + 1 + 1 + 1 < w2.heap.size := Nat.lt_of_lt_of_le s4 hb2.size
      have hown2 := Lib.hid (ownsRow_setCell_below hown (a := ⟨w.heap.size + 1 + 1 + 1 + 1, 0, none⟩) s4 (.slice B r.1.length c2))
      have hge : w.heap.size ≤ w1.heap.size := by omega
      have hbw2 := Lib.hid (hb10.out.trans (hb2.mono hge))
      clear hb2 hown hr hb1 chb1 fhb1 shb1 thb1
      go_wp2
      refine bodyPost_ret (v := .tuple #[.agg #[.slice B r.1.length c2], .int .i64 r.2]) (by simp only [results, Tryz.results8]; go_simp) rfl ?_
      rw [← hrH.out]
      exact ⟨B, c2, rfl, ownsRow_baseU hown2.out hge, hbw2.out.setCell (p := ⟨w.heap.size + 1 + 1 + 1 + 1, 0, none⟩) (by simp; omega) _⟩
end Go.Proofs.YtedihnokcpnikaaGreat
/- Walks: Combinations, the reference. -/



namespace Go.Proofs.YtedihnokcpnikaaGreat
open Go.RowKit Go.Shelf
attribute [local go_sem] BelowBy.cell BelowBy.cell_drew stillUpon givesUpon BelowBy.cell_drew2 BelowBy.cell_drew3

/-- a box that holds a point -/
def PBx (w : World) (b : Nat) (x y : Int) : Prop := w.heap[b]? = some (.cells #[.int .i64 x, .int .i64 y] 44)
theorem PBx.new (w : World) (x y : Int) : PBx (w.alloc (Obj.cells #[.int .i64 x, .int .i64 y] 44)) w.heap.size x y := by
  exact World.alloc_heap_new _ _
theorem PBx.lt {w : World} {b : Nat} {x y : Int} (h : PBx w b x y) : b < w.heap.size := (Array.getElem?_eq_some_iff.1 h).1
theorem PBx.below {w w' : World} {b : Nat} {x y : Int} (h : PBx w b x y) (hb : Below w.heap.size w w') : PBx w' b x y := (hb.block b h.lt).trans h
theorem PBx.kp {w w' : World} {b : Nat} {x y : Int} {ob : Option Nat} (h : PBx w b x y) (hk : Kp ob w.heap.size w w') (hne : some b ≠ ob) : PBx w' b x y := (hk b h.lt hne).trans h
theorem PBx.c0 {w : World} {b : Nat} {x y : Int} (h : PBx w b x y) : w.cell? ⟨b, 0, none⟩ = some (.int .i64 x) := by unfold PBx at h; simp [World.cell?, h]
theorem PBx.c1 {w : World} {b : Nat} {x y : Int} (h : PBx w b x y) : w.cell? ⟨b, 1, none⟩ = some (.int .i64 y) := by unfold PBx at h; simp [World.cell?, h]
theorem sStep_at {x y d x' y' : Int} {w : World} (k : Nat) (hd : d = k) (h4 : k < 4) (hx : -1000 ≤ x ∧ x ≤ 1000) (hy : -1000 ≤ y ∧ y ≤ 1000) (h1 : stepX x k = x') (h2 : stepY y k = y') :
    Calls Tryz.prog 85 #[.agg #[.int .i64 x, .int .i64 y], .int .i64 d] w fun e w' => e = .returned (.agg #[.int .i64 x', .int .i64 y']) ∧ Below w.heap.size w w' := by
  subst hd h1 h2; exact l01Step_any _ _ _ _ (by omega) hx hy
theorem l29Combine_at {p pa pb : Nat} {gs : List Gl} {ts : List Ti} {xs ys : List Pl} {t dx dy : Int} {w : World} {r : List Pl × Int} (hS : SAt w p 0 pa 0 gs ts xs) (hb : AsmAt w pb 0 ys) (hV : Valid gs ts xs) (hV2 : Valid gs ts ys) (ht : 1 ≤ t) (hr : combE gs ts xs ys t dx dy = r) :
    Calls Tryz.prog 35 #[.pointer (some ⟨p, 0, none⟩), .int .i64 t, .pointer (some ⟨pa, 0, none⟩), .pointer (some ⟨pb, 0, none⟩), .agg #[.int .i64 dx, .int .i64 dy]] w fun e w' => ∃ A c, e = .returned (.tuple #[.agg #[.slice A r.1.length c], .int .i64 r.2]) ∧ Below w.heap.size w w' := by
  refine (l29Combine_any p pa pb gs ts xs ys t dx dy w hS hb hV hV2 ht).mono ?_
  rw [hr]
  rintro e w' ⟨A, c, rfl, _, hb⟩
  exact ⟨A, c, rfl, hb⟩
set_option maxRecDepth 100000 in
set_option maxHeartbeats 8000000 in
theorem l29Vectors_any (p pa pb : Nat) (gs : List Gl) (ts : List Ti) (xs ys : List Pl) (t : Int) (w : World) (hS : SAt w p 0 pa 0 gs ts xs) (hb : AsmAt w pb 0 ys) (hV : Valid gs ts xs) (hV2 : Valid gs ts ys) (ht : 1 ≤ t) :
    Calls Tryz.prog 48 #[.pointer (some ⟨p, 0, none⟩), .int .i64 t, .pointer (some ⟨pa, 0, none⟩), .pointer (some ⟨pb, 0, none⟩)] w (OwnPts w (keepV gs ts xs ys t (vecsP gs ts xs ys).length)) := by
  obtain ⟨i2, hi2, hz02, hz12, hz22⟩ := info_parts infoPtV
  obtain ⟨hlta, ⟨A, q, ca, ha1, ha2⟩⟩ := hS.a
  obtain ⟨hltb, ⟨C, nb, cb, hb1, hb2⟩⟩ := id hb
  have hla := ha2.len
  have hlb := hb2.len
  have hl5 := hV.len
  have hlb5 := hV2.len
  have hq5 : q ≤ 500 := by omega
  have hnb5 : nb ≤ 500 := by omega
  have hSH := Lib.hid hS
  have hbH := Lib.hid hb
  have hVH := Lib.hid hV
  have hVbH := Lib.hid hV2
  have ha1H := Lib.hid ha1
  have ha2H := Lib.hid ha2
  have hb1H := Lib.hid hb1
  have hb2H := Lib.hid hb2
  have hlaH := Lib.hid hla
  have hlbH := Lib.hid hlb
  have hVq := Lib.hid (show putAll [] (vecI gs ts xs ys q) = vecsP gs ts xs ys by unfold vecsP; rw [hla])
  have hkeep := Lib.hid (fun k => keepV_len (gs := gs) (ts := ts) (xs := xs) (ys := ys) (t := t) (k := k))
  have hyes := Lib.hid (fun (k : Nat) (p : Pt) => keepV_yes (gs := gs) (ts := ts) (xs := xs) (ys := ys) (t := t) (k := k) (p := p))
  have hno := Lib.hid (fun (k : Nat) (p : Pt) => keepV_no (gs := gs) (ts := ts) (xs := xs) (ys := ys) (t := t) (k := k) (p := p))
  have hk0H := Lib.hid (show keepV gs ts xs ys t 0 = [] from rfl)
  have hvl := vecsP_len (gs := gs) (ts := ts) hl5 hlb5
  clear hS hb hV hV2 ha1 ha2 hb1 hb2 hla hlb
  go_enter Tryz.func48, Tryz.ntmps48
  go_wp2_with fail
  go_loopg [10, 9] q (fun g x y wr => ∃ (i : Nat) (v : Value), i + g = q ∧ x = .int .i64 (i : Int) ∧ v = y ∧ Hid (wr.ownsRow w.heap.size 44 2 v (putAll [] (vecI gs ts xs ys i)).length (ptCells (putAll [] (vecI gs ts xs ys i)))) ∧ Hid (Below w.heap.size w wr) ∧ w.heap.size < wr.heap.size)
  case atStart => exact ⟨0, _, by omega, rfl, rfl, Lib.hid (World.ownsRow_made _ _ _ (Nat.le_refl _) (by decide) rfl), Lib.hid (by exact bel_), by simp⟩
  case round =>
    obtain ⟨i, v, hi, rfl, rfl, hO, hbw, hsz⟩ := hrel
    have ga : wr.cell? ⟨pa, 0, none⟩ = some (.slice A q ca) := (hbw.out.cell (p := ⟨pa, 0, none⟩) hlta).trans ha1H.out
    have la : pa < wr.heap.size := by omega
    by_cases hiq : i < q
    · obtain ⟨e, he⟩ : ∃ e, xs[i]? = some e := ⟨_, List.getElem?_eq_getElem (by have := hlaH.out; omega)⟩
      obtain ⟨ex, ey⟩ := hVH.out.pt i e he
      obtain ⟨te, hte, htel⟩ := hVH.out.ti i e he
      have hvI := Lib.hid (vecI_succ (gs := gs) (ts := ts) (us := ys) he)
      have heH := Lib.hid he
      have hpl := vecI_len (gs := gs) (ts := ts) (xs := xs) (us := ys) (i := i) hlb5
      obtain ⟨P, hP⟩ : ∃ P, vecI gs ts xs ys i = P := ⟨_, rfl⟩
      rw [hP] at hO hvI hpl
      clear he hP
      go_wp2_with fail
      go_loopg [11, 9] 4 (fun g x y wr => ∃ (d : Nat) (v : Value), d + g = 4 ∧ x = .int .i64 (d : Int) ∧ v = y ∧ Hid (wr.ownsRow w.heap.size 44 2 v (putAll [] (P ++ vecD gs ts e ys d)).length (ptCells (putAll [] (P ++ vecD gs ts e ys d)))) ∧ Hid (Below w.heap.size w wr) ∧ w.heap.size < wr.heap.size)
      case atStart => exact ⟨0, v, by omega, rfl, rfl, Lib.hid (by simpa [vecD_zero] using hO.out), hbw, hsz⟩
      case round =>
        clear hO hbw hsz ga la
        obtain ⟨d, v, hd, rfl, rfl, hO, hbw, hsz⟩ := hrel
        have ga : wr.cell? ⟨pa, 0, none⟩ = some (.slice A q ca) := (hbw.out.cell (p := ⟨pa, 0, none⟩) hlta).trans ha1H.out
        have la : pa < wr.heap.size := by omega
        by_cases hd4 : d < 4
        · have hdl := vecD_len (gs := gs) (ts := ts) (e := e) (us := ys) (d := d) hlb5
          have hvD := Lib.hid (vecD_succ (gs := gs) (ts := ts) (e := e) (us := ys) (d := d))
          obtain ⟨Q, hQ⟩ : ∃ Q, P ++ vecD gs ts e ys d = Q := ⟨_, rfl⟩
          have hQl : Q.length ≤ 2000 * i + 500 * d := by rw [← hQ, List.length_append]; omega
          have hQ2 := Lib.hid (show P ++ vecD gs ts e ys (d + 1) = Q ++ vecK gs ts e d ys by rw [hvD.out, ← List.append_assoc, hQ])
          rw [hQ] at hO
          have hdI : (d : Int) < 4 := by omega
          have hsx := stepX_near e.x d
          have hsy := stepY_near e.y d
          obtain ⟨SX, hSX⟩ : ∃ z, stepX e.x (d : Int) = z := ⟨_, rfl⟩
          obtain ⟨SY, hSY⟩ : ∃ z, stepY e.y (d : Int) = z := ⟨_, rfl⟩
          rw [hSX] at hsx
          rw [hSY] at hsy
          have hSXH := Lib.hid hSX
          have hSYH := Lib.hid hSY
          obtain ⟨bA, oA, rfl, hbA, hcA⟩ := (ha2H.out.below RPl.stable hbw.out).ptr (by omega)
          obtain ⟨a0, a1, a2⟩ := hcA i e heH.out
          clear hQ hdl hSX hSY hcA
          go_wp2_with fail
          refine (sStep_at d rfl hd4 (by omega) (by omega) hSXH.out hSYH.out).mono ?_
          rintro e' w4 ⟨rfl, hb4⟩
          have hB4 : Below wr.heap.size wr w4 := by exact bel_
          have s4 := hB4.size
          have hO4 := Lib.hid (ownsRow_below hO.out hB4)
          have hbw4 := Lib.hid (hbw.out.trans (hB4.mono (by omega)))
          clear hb4 hB4 a0 a1 a2 hbA hO hbw ga la
          go_wp2_with fail
          obtain ⟨w5, hw5⟩ : ∃ W, W = w4.alloc (Obj.cells #[.int .i64 SX, .int .i64 SY] 44) := ⟨_, rfl⟩
          have hE0 : Hid (PBx w5 w4.heap.size SX SY) := Lib.hid (by rw [hw5]; exact PBx.new w4 SX SY)
          have hnE : Hid (some w4.heap.size ≠ v.ownBlock) := Lib.hid (fun h => by have := (hO4.out.lt _ h.symm).2; omega)
          have hb5 : Hid (Below w.heap.size w w5) := Lib.hid (hbw4.out.trans (by rw [hw5]; exact (bl_al (bl_refl _) _).mono (by omega)))
          have hO5 : Hid (w5.ownsRow w.heap.size 44 2 v (putAll [] Q).length (ptCells (putAll [] Q))) := Lib.hid (by rw [hw5]; exact hO4.out.alloc _)
          have s5 : w.heap.size < w5.heap.size := by rw [hw5]; simp; omega
          obtain ⟨eb, heb⟩ : ∃ b, w4.heap.size = b := ⟨_, rfl⟩
          rw [heb] at hE0 hnE
          rw [← hw5]
          (try rw [heb])
          clear hw5 hO4 hbw4
          go_wp2_with fail
          go_loopg [13, 9] nb (fun g x y wr => ∃ (k : Nat) (v : Value), k + g = nb ∧ x = .int .i64 (k : Int) ∧ v = y ∧ Hid (wr.ownsRow w.heap.size 44 2 v (putAll [] (Q ++ vecK gs ts e d (ys.take k))).length (ptCells (putAll [] (Q ++ vecK gs ts e d (ys.take k))))) ∧ Hid (Below w.heap.size w wr) ∧ w.heap.size < wr.heap.size ∧ Hid (PBx wr eb SX SY) ∧ Hid (some eb ≠ v.ownBlock))
          case atStart => exact ⟨0, v, by omega, rfl, rfl, Lib.hid (by simpa [vecK_zero] using hO5.out), hb5, s5, hE0, hnE⟩
          case round =>
            clear hO5 hb5 s5 hE0 hnE hsz s4
            obtain ⟨k, v, hk, rfl, rfl, hO, hbw, hsz, hE, hnE⟩ := hrel
            have gb : wr.cell? ⟨pb, 0, none⟩ = some (.slice C nb cb) := (hbw.out.cell (p := ⟨pb, 0, none⟩) hltb).trans hb1H.out
            have lb : pb < wr.heap.size := by omega
            by_cases hkn : k < nb
            · have ga : wr.cell? ⟨pa, 0, none⟩ = some (.slice (some ⟨bA, oA, none⟩) q ca) := (hbw.out.cell (p := ⟨pa, 0, none⟩) hlta).trans ha1H.out
              have la : pa < wr.heap.size := by omega
              obtain ⟨u, hu⟩ : ∃ u, ys[k]? = some u := ⟨_, List.getElem?_eq_getElem (by have := hlbH.out; omega)⟩
              obtain ⟨bB, oB, rfl, hbB, hcB⟩ := (hb2H.out.below RPl.stable hbw.out).ptr (by omega)
              obtain ⟨u0, u1, u2⟩ := hcB k u hu
              obtain ⟨bA', oA', heq, hbA, hcA⟩ := (ha2H.out.below RPl.stable hbw.out).ptr (by omega)
              injection heq with heq
              injection heq with heq1 heq2
              subst heq1 heq2
              obtain ⟨a0, a1, a2⟩ := hcA i e heH.out
              rw [hte] at a2
              obtain ⟨ux, uy⟩ := hVbH.out.pt k u hu
              obtain ⟨tu, htu, htul⟩ := hVbH.out.ti k u hu
              rw [htu] at u2
              obtain ⟨bo, hbo⟩ : ∃ bo, bondI gs ts te d tu = bo := ⟨_, rfl⟩
              have hbo2 : bondI gs ts e.t.toNat d u.t.toNat = bo := by rw [hte, htu]; exact hbo
              have huH := Lib.hid hu
              have hboH := Lib.hid hbo
              have hbo2H := Lib.hid hbo2
              clear hu hcB hcA hbo hbo2
              go_wp2_with fail
              refine wp_region_ord [(0, .q), (1, .q), (2, .q), (3, .q), (4, .q), (5, .q), (6, .q), (7, .q), (8, .q), (9, .q), (10, .q), (11, .q), (12, .q), (13, .q), (14, .q), (15, .q), (16, .q), (17, .q), (18, .g), (19, .q)] (by kernel_rfl) (by kernel_rfl) ?_
              simp only [pick, List.filterMap_cons, List.filterMap_nil, List.getElem?_toArray, List.getElem?_cons_zero, List.getElem?_cons_succ, Option.map_some]
              repeat (first
                | ((with_reducible refine wpD_p (fun K hK => ?_)); go_simp; refine hK _ ?_; clear hK K)
                | ((with_reducible refine wpD_q (fun K hK => ?_)); go_simp; (first | refine hK _ ?_ | (go_bits; refine hK _ ?_) | (go_bits; go_simp; refine hK _ ?_)); clear hK K)
                | ((with_reducible refine wpD_g (fun K hK => ?_)); go_simp; refine hK _ _ ?_; clear hK K)
                | ((with_reducible refine wpD_g (fun K hK => ?_)); go_simp; refine ⟨Grew.of_alloc _, hK _ _ ?_⟩; clear hK K)
                | ((with_reducible refine wpD_g (fun K hK => ?_)); go_simp; go_at_call 86; refine (l02Bond_at te tu rfl rfl (hSH.out.below (hbw.out.trans (Below.mono (show Below wr.heap.size wr _ by exact bel_) (by omega)))).s hVH.out htel htul hd4 hboH.out).mono ?_; rintro e w5 ⟨rfl, hb5⟩; refine ⟨_, rfl, hb5, hK _ _ ?_⟩; clear hK K; obtain ⟨chb5, fhb5, shb5, thb5⟩ := bcell hb5))
              with_reducible refine wpD_nil ?_
              have hB5 : Below wr.heap.size wr w5 := by exact bel_
              have s5 := hB5.size
              replace u0 := (hB5.cell (p := ⟨bB, oB + k * 3, none⟩) hbB).trans u0
              replace u1 := (hB5.cell (p := ⟨bB, oB + k * 3 + 1, none⟩) hbB).trans u1
              replace u2 := (hB5.cell (p := ⟨bB, oB + k * 3 + 2, none⟩) hbB).trans u2
              replace gb := (hB5.cell (p := ⟨pb, 0, none⟩) lb).trans gb
              replace lb := Nat.lt_of_lt_of_le lb s5
              replace hbB := Nat.lt_of_lt_of_le hbB s5
              have hE5 := Lib.hid (hE.out.below hB5)
              have hbw5 := Lib.hid (hbw.out.trans (hB5.mono (by omega)))
              have hO5 := Lib.hid (ownsRow_below hO.out hB5)
              clear hb5 hB5 chb5 fhb5 shb5 thb5 a0 a1 a2 hE hbw hO ga la hbA
              by_cases hpos : 0 < bo
              · have hnx := Lib.hid (vecK_yes (gs := gs) (ts := ts) huH.out hbo2H.out hpos)
                have hkl := vecK_lenk (gs := gs) (ts := ts) (e := e) (d := d) (us := ys) (k := k)
                obtain ⟨R, hRl⟩ : ∃ R, Q ++ vecK gs ts e d (ys.take k) = R := ⟨_, rfl⟩
                have hRl2 : R.length ≤ 2000 * i + 500 * d + k := by rw [← hRl, List.length_append]; omega
                have hRx := Lib.hid (show Q ++ vecK gs ts e d (ys.take (k + 1)) = R ++ [⟨SX - u.x, SY - u.y⟩] by rw [hnx.out, hSXH.out, hSYH.out, ← List.append_assoc, hRl])
                have hRp := putAll_len2 R []
                rw [hRl] at hO5
                have e0 := hE5.out.c0
                have e1 := hE5.out.c1
                have le := hE5.out.lt
                obtain ⟨Z, hZ⟩ : ∃ Z, putAll [] R = Z := ⟨_, rfl⟩
                have hZl : Z.length ≤ 1000000 := by rw [← hZ]; simp at hRp; omega
                rw [hZ] at hO5
                have hZx := Lib.hid (show putAll [] (Q ++ vecK gs ts e d (ys.take (k + 1))) = putP Z (SX - u.x) (SY - u.y) by rw [hRx.out, putAll_snoc, hZ])
                clear hRl hkl hZ hRp hRl2
                go_wp2_with fail
                refine (l08PutPoint_kp (hO5.out.alloc _) (by simp; omega) hZl).mono ?_
                rintro e' w7 ⟨v7, rfl, hown7, hb7, hkp7, hne7⟩
                have hE7 := Lib.hid ((hE5.out.below (show Below w5.heap.size w5 (w5.alloc (Obj.cells #[.int .i64 u.x, .int .i64 u.y] 44)) by exact bel_)).kp hkp7 hnE.out)
                have hnE7 := Lib.hid (hne7 eb (by simp; omega) hnE.out)
                have hO7 := Lib.hid hown7
                have s7 : w.heap.size < w7.heap.size := by have := hb7.size; simp at this; omega
                have hbw7 := Lib.hid (hbw5.out.trans (((bl_al (bl_refl w5) (Obj.cells #[.int .i64 u.x, .int .i64 u.y] 44)).mono (by omega)).trans hb7))
                clear hown7 hb7 hkp7 hne7 e0 e1 le u0 u1 u2 gb lb hbB
                go_wp2
                go_roundg (nb - (k + 1))
                case measure => omega
                case rel => exact ⟨k + 1, v7, by omega, by go_num, rfl, Lib.hid (by rw [hZx.out]; exact hO7.out), hbw7, s7, hE7, hnE7⟩
              · have hnx := Lib.hid (vecK_no (gs := gs) (ts := ts) huH.out hbo2H.out hpos)
                go_wp2
                go_roundg (nb - (k + 1))
                case measure => omega
                case rel => exact ⟨k + 1, v, by omega, by go_num, rfl, Lib.hid (by rw [hnx.out]; exact hO5.out), hbw5, by omega, hE5, hnE⟩
            · obtain rfl : k = nb := by omega
              have htk : ys.take k = ys := List.take_of_length_le (by have := hlbH.out; omega)
              have hO2 := hO.out
              rw [htk] at hO2
              have hO2H := Lib.hid hO2
              clear htk hO2
              go_wp2
              go_roundg (4 - (d + 1))
              case measure => omega
              case rel => exact ⟨d + 1, v, by omega, by go_num, rfl, Lib.hid (by rw [hQ2.out]; exact hO2H.out), hbw, hsz⟩
        · obtain rfl : d = 4 := by omega
          go_wp2
          go_roundg (q - (i + 1))
          case measure => omega
          case rel => exact ⟨i + 1, v, by omega, by go_num, rfl, Lib.hid (by rw [hvI.out]; exact hO.out), hbw, hsz⟩
    · obtain rfl : i = q := by omega
      rw [hVq.out] at hO
      obtain ⟨V, hVe⟩ : ∃ V, vecsP gs ts xs ys = V := ⟨_, rfl⟩
      rw [hVe] at hO hvl ⊢
      have hyes2 : Hid (∀ (k : Nat) (p : Pt), V[k]? = some p → (combE gs ts xs ys t p.x p.y).2 = 0 → keepV gs ts xs ys t (k + 1) = keepV gs ts xs ys t k ++ [p]) := Lib.hid (by rw [← hVe]; exact hyes.out)
      have hno2 : Hid (∀ (k : Nat) (p : Pt), V[k]? = some p → ¬ (combE gs ts xs ys t p.x p.y).2 = 0 → keepV gs ts xs ys t (k + 1) = keepV gs ts xs ys t k) := Lib.hid (by rw [← hVe]; exact hno.out)
      obtain ⟨A1, c1, rfl, hrd1⟩ := rdPt_of_row hO.out
      obtain ⟨n1, hn1⟩ : ∃ n1, V.length = n1 := ⟨_, rfl⟩
      rw [hn1] at hrd1 hvl ⊢
      have hn1H := Lib.hid hn1
      have hfin : Hid ((vecsP gs ts xs ys).length = n1) := Lib.hid (by rw [hVe]; exact hn1)
      have hrd1H := Lib.hid hrd1
      have hbwr := hbw
      clear hrd1 hVe hyes hno hO hbw
      go_wp2_with fail
      obtain ⟨wq, rfl⟩ : ∃ W, W = wr := ⟨_, rfl⟩
      go_loopg [16, 15] n1 (fun g x y wr => ∃ (k : Nat) (v : Value), k + g = n1 ∧ x = .int .i64 (k : Int) ∧ v = y ∧ Hid (wr.ownsRow wq.heap.size 44 2 v (keepV gs ts xs ys t k).length (ptCells (keepV gs ts xs ys t k))) ∧ Hid (Below wq.heap.size wq wr))
      case atStart => exact ⟨0, _, by omega, rfl, rfl, Lib.hid (by rw [hk0H.out]; exact World.ownsRow_made _ _ _ (Nat.le_refl _) (by decide) rfl), Lib.hid (bl_al (bl_refl _) _)⟩
      case round =>
        obtain ⟨k, v, hk, rfl, rfl, hO, hbz⟩ := hrel
        have sz := hbz.out.size
        by_cases hkn : k < n1
        · obtain ⟨p2, hp⟩ : ∃ p, V[k]? = some p := ⟨_, List.getElem?_eq_getElem (by have := hn1H.out; omega)⟩
          obtain ⟨bA, oA, rfl, hbA, hcA⟩ := (hrd1H.out.below RPt.stable hbz.out).ptr (by omega)
          obtain ⟨p0, p1⟩ := hcA k p2 hp
          have hbwz : Hid (Below w.heap.size w wr) := Lib.hid (hbwr.out.trans (hbz.out.mono (by omega)))
          obtain ⟨r, hr⟩ : ∃ r, combE gs ts xs ys t p2.x p2.y = r := ⟨_, rfl⟩
          have hpH := Lib.hid hp
          have hrH := Lib.hid hr
          clear hcA hp hr
          go_wp2_with fail
          refine (l29Combine_at (hSH.out.below hbwz.out) (hbH.out.below hbwz.out) hVH.out hVbH.out ht hrH.out).mono ?_
          rintro e' w2 ⟨B, c5, rfl, hb2⟩
          replace p0 := (hb2.cell (p := ⟨bA, oA + k * 2, none⟩) hbA).trans p0
          replace p1 := (hb2.cell (p := ⟨bA, oA + k * 2 + 1, none⟩) hbA).trans p1
          replace hbA := Nat.lt_of_lt_of_le hbA hb2.size
          have s2 := hb2.size
          have hO2 := Lib.hid (ownsRow_below hO.out hb2)
          have hbz2 := Lib.hid (hbz.out.trans (hb2.mono sz))
          clear hb2 hO hbz
          by_cases h0 : r.2 = 0
          · have hnx := Lib.hid (hyes2.out k p2 hpH.out (by rw [hrH.out]; exact h0))
            obtain ⟨K, hK⟩ : ∃ K, keepV gs ts xs ys t k = K := ⟨_, rfl⟩
            have hKl : K.length ≤ k := by rw [← hK]; exact hkeep.out k
            rw [hK] at hO2 hnx
            have h0b : (r.2 == 0) = true := by simp [h0]
            obtain ⟨M, hM⟩ : ∃ M, r.1.length = M := ⟨_, rfl⟩
            rw [hM]
            clear hK hM
            go_upto_region 21 with fail
            obtain ⟨w3, hw3⟩ : ∃ W, W = w2.alloc (Obj.cells #[.slice B M c5] 35) := ⟨_, rfl⟩
            have x0 : w3.cell? ⟨bA, oA + k * 2, none⟩ = some (.int .i64 p2.x) := by rw [hw3]; go_simp
            have x1 : w3.cell? ⟨bA, oA + k * 2 + 1, none⟩ = some (.int .i64 p2.y) := by rw [hw3]; go_simp
            have s3 : w2.heap.size < w3.heap.size := by rw [hw3]; simp
            have l3 : bA < w3.heap.size := by omega
            have hO3 : Hid (w3.ownsRow wq.heap.size 44 2 v K.length (ptCells K)) := Lib.hid (by rw [hw3]; exact hO2.out.alloc _)
            have hbz3 : Hid (Below wq.heap.size wq w3) := Lib.hid (by rw [hw3]; exact hbz2.out.trans ((bl_al (bl_refl _) _).mono (by omega)))
            rw [← hw3]
            clear hw3 p0 p1 hbA hO2 hbz2
            go_wp2_with (at_builtin; refine wpList_append_own _ rfl _ _ 51 rfl wq.heap.size 44 i2 (.agg #[.int .i64 0, .int .i64 0]) 2 16 Tryz.underlying51 hi2 hz02 hz12 hz22 rfl (by decide) _ _ _ rfl (hO3.out.alloc _) ⟨w3.heap.size, 0, none⟩ 1 1 [.int .i64 p2.x, .int .i64 p2.y] rfl rfl (cell_two_newV _ _ _ _) (fun x hx => by simp at hx; rcases hx with rfl | rfl <;> rfl) (by unfold maxLen; omega) (by omega) (by simp; omega) ?_; intro v5 w5 hown5 hgrow5 _; have hO5 := Lib.hid hown5; have hbz5 := Lib.hid (hbz3.out.trans (((Below.refl wq.heap.size w3).alloc (by omega) _).grown hgrow5 (Nat.le_trans (show wq.heap.size ≤ w3.heap.size by omega) (by simp)) (fun g e => (hO3.out.lt g e).1))); clear hown5 hgrow5)
            go_roundg (n1 - (k + 1))
            case measure => omega
            case rel => exact ⟨k + 1, v5, by omega, by go_num, rfl, Lib.hid (by rw [hnx.out, ptCells_snoc, List.length_append]; exact hO5.out), hbz5⟩
          · have hnx := Lib.hid (hno2.out k p2 hpH.out (by rw [hrH.out]; exact h0))
            have h0b : (r.2 == 0) = false := by simpa using h0
            go_wp2
            go_roundg (n1 - (k + 1))
            case measure => omega
            case rel => exact ⟨k + 1, v, by omega, by go_num, rfl, Lib.hid (by rw [hnx.out]; exact hO2.out.alloc _), Lib.hid (hbz2.out.trans ((bl_al (bl_refl _) _).mono (by omega)))⟩
        · obtain rfl : k = n1 := by omega
          go_wp2
          go_ret
          have hge : w.heap.size ≤ wq.heap.size := by omega
          refine ⟨_, rfl, ?_, hbwr.out.trans (hbz.out.mono hge)⟩
          rw [hfin.out]
          exact ownsRow_baseU hO.out hge
theorem PtsV.made {w W : World} {r : List Pt × Int} {c : Int} {k : Nat} {cur : Array Value} (h : (([], c) : List Pt × Int) = r) (hk : k = W.heap.size) (hb : Below w.heap.size w W) (hs : cur.size = 0) : PtsV w r (.returned (.tuple #[.slice (some ⟨k, 0, none⟩) 0 0, .int .i64 c])) (W.alloc (Obj.cells cur 44)) := by
  subst h hk
  exact ⟨some ⟨W.heap.size, 0, none⟩, 0, rfl, World.ownsRow_made _ _ _ hb.size (by decide) (by simpa using hs), hb.trans ((bl_al (bl_refl W) _).mono hb.size)⟩
set_option maxRecDepth 100000 in
set_option maxHeartbeats 4000000 in
theorem sCombinations_any (G T A C : Option Addr) (n cg m ct q ca nb cb : Nat) (gs : List Gl) (ts : List Ti) (xs ys : List Pl) (t : Int) (w : World) (hS : SA w G n T m A q gs ts xs) (hS2 : SA w G n T m C nb gs ts ys) :
    Calls Tryz.prog 18 #[.agg #[.slice G n cg, .slice T m ct], .int .i64 t, .agg #[.slice A q ca], .agg #[.slice C nb cb]] w (PtsV w (combosR gs ts xs ys t)) := by
  have hlb := hS2.A.len
  have hq2 := hS2.q
  have h0 := Lib.hid (hS.box cg ct ca)
  have hb0 : Hid (AsmAt (((w.alloc (Obj.cells #[.slice G n cg, .slice T m ct] 41)).alloc (Obj.cells #[.slice A q ca] 35)).alloc (Obj.cells #[.slice C nb cb] 35)) (w.heap.size + 1 + 1) 0 ys) :=
    Lib.hid ⟨by simp, C, nb, cb, by go_simp, hS2.A.below RPl.stable (by exact bel_)⟩
  clear hS hS2
  have hc1 := codeB_true
  have hc2 := codeB_false
  cases hk : askJ gs ts xs ys
  · have hrH := Lib.hid (show (([], 1) : List Pt × Int) = combosR gs ts xs ys t by unfold combosR; rw [if_pos hk])
    have hkH := Lib.hid hk
    clear hk
    go_enter Tryz.func18, Tryz.ntmps18
    go_wp2_with fail
    refine (l29Asked_at (h0.out.below (by exact bel_)) (hb0.out.below (by exact bel_)) (by omega) hkH.out).mono ?_
    rintro e w1 ⟨rfl, hb1⟩
    have hb10 := Lib.hid (show Below w.heap.size w w1 by exact bel_)
    go_wp2
    go_ret2
    exact PtsV.made hrH.out rfl hb10.out rfl
  · cases hT : inB t 1 16
    · have hrH := Lib.hid (show (([], 2) : List Pt × Int) = combosR gs ts xs ys t by unfold combosR; rw [if_neg (by rw [hk]; decide), if_pos hT])
      have hkH := Lib.hid hk
      have hTH := Lib.hid hT
      clear hk hT
      go_enter Tryz.func18, Tryz.ntmps18
      go_wp2_with fail
      refine (l29Asked_at (h0.out.below (by exact bel_)) (hb0.out.below (by exact bel_)) (by omega) hkH.out).mono ?_
      rintro e w1 ⟨rfl, hb1⟩
      have hb10 := Lib.hid (show Below w.heap.size w w1 by exact bel_)
      go_wp2_with (go_at_call 34; refine (sTempH_at hTH.out).mono ?_; rintro e _ ⟨rfl, rfl⟩)
      go_ret2
      exact PtsV.made hrH.out rfl hb10.out rfl
    · have hrH := Lib.hid (show (keepV gs ts xs ys t (vecsP gs ts xs ys).length, (0 : Int)) = combosR gs ts xs ys t by unfold combosR; rw [if_neg (by rw [hk]; decide), if_neg (by rw [hT]; decide)])
      have hk2 : validAsmB gs ts xs = true ∧ validAsmB gs ts ys = true := by unfold askJ at hk; simpa using hk
      have hV := Lib.hid (valid_of hk2.1)
      have hV2 := Lib.hid (valid_of hk2.2)
      have hT1 : 1 ≤ t := (inB_true.1 hT).1
      have hkH := Lib.hid hk
      have hTH := Lib.hid hT
      clear hk hT hk2
      go_enter Tryz.func18, Tryz.ntmps18
      go_wp2_with fail
      refine (l29Asked_at (h0.out.below (by exact bel_)) (hb0.out.below (by exact bel_)) (by omega) hkH.out).mono ?_
      rintro e w1 ⟨rfl, hb1⟩
      have hb10 := Lib.hid (show Below w.heap.size w w1 by exact bel_)
      have h1 := Lib.hid (h0.out.below (show Below _ _ w1 by exact bel_))
      have hb1' := Lib.hid (hb0.out.below (show Below _ _ w1 by exact bel_))
      have hge : w.heap.size ≤ w1.heap.size := by have := hb1.size; simp at this; omega
      clear hb1
      go_wp2_with (go_at_call 34; refine (sTempH_at hTH.out).mono ?_; rintro e _ ⟨rfl, rfl⟩)
      refine (l29Vectors_any w.heap.size (w.heap.size + 1) (w.heap.size + 1 + 1) gs ts xs ys t _ h1.out hb1'.out hV.out hV2.out hT1).mono ?_
      rintro e w2 ⟨v1, rfl, hown, hb2⟩
      have hbw2 := Lib.hid (hb10.out.trans (hb2.mono hge))
      have hownH := Lib.hid hown
      clear hb2 hown
      go_wp2
      go_ret2
      exact PtsV.of hrH.out hownH.out hge hbw2.out
end Go.Proofs.YtedihnokcpnikaaGreat
